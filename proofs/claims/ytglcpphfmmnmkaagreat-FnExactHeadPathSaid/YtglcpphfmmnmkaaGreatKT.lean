import Derived.Test.YtglcpphfmmnmkaaGreatKS
import Derived.Test.YtglcpphfmmnmkaaGreatW20a
import Derived.Test.YtglcpphfmmnmkaaGreatOrdApp
set_option linter.unusedSimpArgs false
set_option linter.unusedVariables false
/- Walks: systems: the reference's test and the program's. -/

namespace Go.Proofs.YtglcpphfmmnmkaaGreat
open Go.RowKit Go.Shelf
attribute [local go_sem] BelowBy.cell BelowBy.cell_drew stillUpon givesUpon BelowBy.cell_drew2 BelowBy.cell_drew3

/-- a valid system -/
noncomputable def sysOkB (gs : List Gl) (ts : List Ti) (xs : List Pl) (t : Int) : Bool := decide (0 < xs.length) && (isStabR gs ts xs t).1
theorem isStabR_cases (gs : List Gl) (ts : List Ti) (xs : List Pl) (t : Int) : (∃ c : Int, c ≠ 0 ∧ isStabR gs ts xs t = (false, c)) ∨ ∃ b, isStabR gs ts xs t = (b, 0) := by
  unfold isStabR
  split
  · exact .inl ⟨1, by decide, rfl⟩
  · split
    · exact .inl ⟨2, by decide, rfl⟩
    · unfold stabVR stabR
      split
      · exact .inl ⟨4, by decide, rfl⟩
      · exact .inr ⟨_, rfl⟩
theorem sysOkB_valid {gs : List Gl} {ts : List Ti} {xs : List Pl} {t : Int} (h : sysOkB gs ts xs t = true) : validAsmB gs ts xs = true ∧ 0 < xs.length ∧ tempB t = true := by
  unfold sysOkB at h
  simp only [Bool.and_eq_true, decide_eq_true_eq] at h
  obtain ⟨h1, h2⟩ := h
  refine ⟨?_, h1, ?_⟩
  · cases hv : validAsmB gs ts xs
    · rw [← isStabR_no hv] at h2; cases h2
    · rfl
  · cases hv : validAsmB gs ts xs
    · rw [← isStabR_no hv] at h2; cases h2
    · cases ht : tempB t
      · rw [← isStabR_range hv ht] at h2; cases h2
      · rfl
structure SysAt (w : World) (p o : Nat) (gs : List Gl) (ts : List Ti) (xs : List Pl) (t : Int) : Prop where
  sat : SAt w p o p (o + 2) gs ts xs
  temp : w.cell? ⟨p, o + 3, none⟩ = some (.int .i64 t)
section
variable {w w' : World} {p o q oq : Nat} {gs : List Gl} {ts : List Ti} {xs : List Pl} {t : Int}
theorem SysAt.below (h : SysAt w p o gs ts xs t) (hb : Below w.heap.size w w') : SysAt w' p o gs ts xs t :=
  ⟨h.sat.below hb, (hb.cell (p := ⟨p, o + 3, none⟩) h.sat.s.lt).trans h.temp⟩
theorem SA.sysbox {G T A : Option Addr} {n m k : Nat} (h : SA w G n T m A k gs ts xs) (cg ct ca : Nat) (t : Int) : SysAt (w.alloc (Obj.cells #[.slice G n cg, .slice T m ct, .slice A k ca, .int .i64 t] 45)) w.heap.size 0 gs ts xs t :=
  ⟨⟨⟨by simp, ⟨G, n, cg, by go_simp, h.G.below RGl.stable (by repeat (first | with_reducible (first | exact bl_refl _ | assumption | refine bl_al ?_ _ | refine bl_dr ?_ | refine bl_tr ?_ (by assumption) | refine bl_set ?_ ?_ _ | exact Nat.le_refl _) | omega | (simp only [World.size_alloc, World.size_setCell, World.size_drew] at *; omega) | (dsimp only; omega) | (simp; done) | (simp; omega)))⟩, ⟨T, m, ct, by go_simp, h.T.below RTi.stable (by repeat (first | with_reducible (first | exact bl_refl _ | assumption | refine bl_al ?_ _ | refine bl_dr ?_ | refine bl_tr ?_ (by assumption) | refine bl_set ?_ ?_ _ | exact Nat.le_refl _) | omega | (simp only [World.size_alloc, World.size_setCell, World.size_drew] at *; omega) | (dsimp only; omega) | (simp; done) | (simp; omega)))⟩⟩, ⟨by simp, A, k, ca, by go_simp, h.A.below RPl.stable (by repeat (first | with_reducible (first | exact bl_refl _ | assumption | refine bl_al ?_ _ | refine bl_dr ?_ | refine bl_tr ?_ (by assumption) | refine bl_set ?_ ?_ _ | exact Nat.le_refl _) | omega | (simp only [World.size_alloc, World.size_setCell, World.size_drew] at *; omega) | (dsimp only; omega) | (simp; done) | (simp; omega)))⟩,
    by rw [h.A.len]; exact h.q, by rw [h.G.len]; exact h.gm, by rw [h.T.len]; exact h.tm, h.gn, h.tn⟩, by go_simp⟩
theorem SAt.set {v : Bool} (h : SAt w p o q oq gs ts xs) (hv : validSetB gs ts = v) :
    Calls Tryz.prog 139 #[.pointer (some ⟨p, o, none⟩)] w fun e w' => e = .returned (.bool v) ∧ Below w.heap.size w w' := by
  rw [← hv]; exact l02Ok_any _ gs ts _ h.s (Nat.le_trans h.gm (by decide)) (Nat.le_trans h.tm (by decide)) h.gn h.tn
theorem SAt.form {v : Bool} (h : SAt w p o q oq gs ts xs) (hv : (hasFormB xs && allB xs.length (okTile ts.length xs)) = v) :
    Calls Tryz.prog 101 #[.pointer (some ⟨p, o, none⟩), .pointer (some ⟨q, oq, none⟩)] w fun e w' => e = .returned (.bool v) ∧ Below w.heap.size w w' := by
  rw [← hv]; exact l03Ok_any _ _ gs ts xs _ h.s h.a h.q (Nat.le_trans h.tm (by decide))
end
theorem l07Temperature_at (t : Int) (w : World) {v : Bool} (h : tempB t = v) : Calls Tryz.prog 140 #[.int .i64 t] w fun e w' => e = .returned (.bool v) ∧ w = w' := by
  rw [← h]; exact l07Temperature_any t w
set_option maxRecDepth 100000 in
set_option maxHeartbeats 4000000 in
theorem l08Ok_any {o : Nat} (p : Nat) (gs : List Gl) (ts : List Ti) (xs : List Pl) (t : Int) (w : World) (h : SysAt w p o gs ts xs t) :
    Calls Tryz.prog 100 #[.pointer (some ⟨p, o, none⟩)] w fun e w' => e = .returned (.bool (sysOkB gs ts xs t)) ∧ Below w.heap.size w w' := by
  
  have hS := Lib.hid h.sat
  have ct := h.temp
  have lp := h.sat.s.lt
  obtain ⟨lq, A, q, ca, cq, hA⟩ := h.sat.a
  have hlen := hA.len
  have hq0 := h.sat.q
  rw [hlen] at hq0
  have hlenH := Lib.hid hlen
  clear h hA hlen
  cases hv2 : validSetB gs ts
  · have hv2H := Lib.hid hv2
    have hr := Lib.hid (show false = sysOkB gs ts xs t by unfold sysOkB; rw [← isStabR_no (show validAsmB gs ts xs = false by unfold validAsmB; rw [hv2]; rfl)]; simp)
    clear hv2
    go_enter Tryz.func100, Tryz.ntmps100
    go_wp2
    refine wp_region_ord [(0, .q), (1, .q), (2, .q), (3, .g), (4, .q), (5, .q), (6, .q), (7, .q), (8, .q), (9, .q), (10, .q), (11, .q), (12, .g), (13, .q), (14, .q), (15, .q), (16, .q), (17, .q), (18, .q), (19, .q), (20, .q), (21, .q), (22, .q), (23, .q), (24, .q), (25, .q), (26, .q), (27, .q), (28, .q), (29, .g), (30, .q), (31, .q)] (by kernel_rfl) (by kernel_rfl) ?_
    simp only [pick, List.filterMap_cons, List.filterMap_nil, List.getElem?_toArray, List.getElem?_cons_zero, List.getElem?_cons_succ, Option.map_some]
    repeat (first
      | ((with_reducible refine wpD_p (fun K hK => ?_)); go_simp; refine hK _ ?_; clear hK K)
      | ((with_reducible refine wpD_q (fun K hK => ?_)); go_simp; (first | refine hK _ ?_ | (go_bits; refine hK _ ?_) | (go_bits; go_simp; refine hK _ ?_)); clear hK K)
      | ((with_reducible refine wpD_g (fun K hK => ?_)); go_simp; refine hK _ _ ?_; clear hK K)
      | ((with_reducible refine wpD_g (fun K hK => ?_)); go_simp; refine ⟨Grew.of_alloc _, hK _ _ ?_⟩; clear hK K)
      | ((with_reducible refine wpD_g (fun K hK => ?_)); go_simp; go_at_call 139; refine ((hS.out.below (by repeat (first | with_reducible (first | exact bl_refl _ | assumption | refine bl_al ?_ _ | refine bl_dr ?_ | refine bl_tr ?_ (by assumption) | refine bl_set ?_ ?_ _ | exact Nat.le_refl _) | omega | (simp only [World.size_alloc, World.size_setCell, World.size_drew] at *; omega) | (dsimp only; omega) | (simp; done) | (simp; omega)))).set hv2H.out).mono ?_; rintro e w1 ⟨rfl, hb1⟩; refine ⟨_, rfl, hb1, hK _ _ ?_⟩; clear hK K; obtain ⟨chb1, fhb1, shb1, thb1⟩ := bcell hb1; (try have bhb10 := shb1 (p) (by go_simp)); have cq1 := (hb1.cell (p := ⟨p, o + 2, none⟩) (by simpa using lp)).trans (show _ = some (Value.slice A q ca) by simpa using cq); have ct1 := (hb1.cell (p := ⟨p, o + 3, none⟩) (by simpa using lp)).trans (show _ = some (Value.int .i64 t) by simpa using ct)))
    with_reducible refine wpD_nil ?_
    go_wp2
    go_ret
    exact ⟨ret_bool hr.out, by repeat (first | with_reducible (first | exact bl_refl _ | assumption | refine bl_al ?_ _ | refine bl_dr ?_ | refine bl_tr ?_ (by assumption) | refine bl_set ?_ ?_ _ | exact Nat.le_refl _) | omega | (simp only [World.size_alloc, World.size_setCell, World.size_drew] at *; omega) | (dsimp only; omega) | (simp; done) | (simp; omega))⟩
  · have hv2H := Lib.hid hv2
    cases hv3 : (hasFormB xs && allB xs.length (okTile ts.length xs))
    · have hv3H := Lib.hid hv3
      have hr := Lib.hid (show false = sysOkB gs ts xs t by unfold sysOkB; rw [← isStabR_no (show validAsmB gs ts xs = false by unfold validAsmB; rw [hv2, hv3]; rfl)]; simp)
      clear hv2 hv3
      go_enter Tryz.func100, Tryz.ntmps100
      go_wp2
      refine wp_region_ord [(0, .q), (1, .q), (2, .q), (3, .g), (4, .q), (5, .q), (6, .q), (7, .q), (8, .q), (9, .q), (10, .q), (11, .q), (12, .g), (13, .q), (14, .q), (15, .q), (16, .q), (17, .q), (18, .q), (19, .q), (20, .q), (21, .q), (22, .q), (23, .q), (24, .q), (25, .q), (26, .q), (27, .q), (28, .q), (29, .g), (30, .q), (31, .q)] (by kernel_rfl) (by kernel_rfl) ?_
      simp only [pick, List.filterMap_cons, List.filterMap_nil, List.getElem?_toArray, List.getElem?_cons_zero, List.getElem?_cons_succ, Option.map_some]
      repeat (first
        | ((with_reducible refine wpD_p (fun K hK => ?_)); go_simp; refine hK _ ?_; clear hK K)
        | ((with_reducible refine wpD_q (fun K hK => ?_)); go_simp; (first | refine hK _ ?_ | (go_bits; refine hK _ ?_) | (go_bits; go_simp; refine hK _ ?_)); clear hK K)
        | ((with_reducible refine wpD_g (fun K hK => ?_)); go_simp; refine hK _ _ ?_; clear hK K)
        | ((with_reducible refine wpD_g (fun K hK => ?_)); go_simp; refine ⟨Grew.of_alloc _, hK _ _ ?_⟩; clear hK K)
        | ((with_reducible refine wpD_g (fun K hK => ?_)); go_simp; go_at_call 139; refine ((hS.out.below (by repeat (first | with_reducible (first | exact bl_refl _ | assumption | refine bl_al ?_ _ | refine bl_dr ?_ | refine bl_tr ?_ (by assumption) | refine bl_set ?_ ?_ _ | exact Nat.le_refl _) | omega | (simp only [World.size_alloc, World.size_setCell, World.size_drew] at *; omega) | (dsimp only; omega) | (simp; done) | (simp; omega)))).set hv2H.out).mono ?_; rintro e w1 ⟨rfl, hb1⟩; refine ⟨_, rfl, hb1, hK _ _ ?_⟩; clear hK K; obtain ⟨chb1, fhb1, shb1, thb1⟩ := bcell hb1; (try have bhb10 := shb1 (p) (by go_simp)); have cq1 := (hb1.cell (p := ⟨p, o + 2, none⟩) (by simpa using lp)).trans (show _ = some (Value.slice A q ca) by simpa using cq); have ct1 := (hb1.cell (p := ⟨p, o + 3, none⟩) (by simpa using lp)).trans (show _ = some (Value.int .i64 t) by simpa using ct))
        | ((with_reducible refine wpD_g (fun K hK => ?_)); go_simp; go_at_call 101; refine ((hS.out.below (by repeat (first | with_reducible (first | exact bl_refl _ | assumption | refine bl_al ?_ _ | refine bl_dr ?_ | refine bl_tr ?_ (by assumption) | refine bl_set ?_ ?_ _ | exact Nat.le_refl _) | omega | (simp only [World.size_alloc, World.size_setCell, World.size_drew] at *; omega) | (dsimp only; omega) | (simp; done) | (simp; omega)))).form hv3H.out).mono ?_; rintro e w2 ⟨rfl, hb2⟩; refine ⟨_, rfl, hb2, hK _ _ ?_⟩; clear hK K; obtain ⟨chb2, fhb2, shb2, thb2⟩ := bcell hb2; (try have bhb20 := shb2 (p) (by go_simp)); have cq2 := (hb2.cell (p := ⟨p, o + 2, none⟩) bhb10).trans cq1; have ct2 := (hb2.cell (p := ⟨p, o + 3, none⟩) bhb10).trans ct1))
      with_reducible refine wpD_nil ?_
      go_wp2
      go_ret
      exact ⟨ret_bool hr.out, by repeat (first | with_reducible (first | exact bl_refl _ | assumption | refine bl_al ?_ _ | refine bl_dr ?_ | refine bl_tr ?_ (by assumption) | refine bl_set ?_ ?_ _ | exact Nat.le_refl _) | omega | (simp only [World.size_alloc, World.size_setCell, World.size_drew] at *; omega) | (dsimp only; omega) | (simp; done) | (simp; omega))⟩
    · have hv3H := Lib.hid hv3
      have hval : validAsmB gs ts xs = true := by unfold validAsmB; rw [hv2, hv3]; rfl
      have hvH := Lib.hid hval
      have hV := valid_of hval
      clear hv2 hv3 hval
      by_cases hq1 : q = 0
      · subst hq1
        have hr := Lib.hid (show false = sysOkB gs ts xs t by unfold sysOkB; rw [hlenH.out]; rfl)
        go_enter Tryz.func100, Tryz.ntmps100
        go_wp2
        refine wp_region_ord [(0, .q), (1, .q), (2, .q), (3, .g), (4, .q), (5, .q), (6, .q), (7, .q), (8, .q), (9, .q), (10, .q), (11, .q), (12, .g), (13, .q), (14, .q), (15, .q), (16, .q), (17, .q), (18, .q), (19, .q), (20, .q), (21, .q), (22, .q), (23, .q), (24, .q), (25, .q), (26, .q), (27, .q), (28, .q), (29, .g), (30, .q), (31, .q)] (by kernel_rfl) (by kernel_rfl) ?_
        simp only [pick, List.filterMap_cons, List.filterMap_nil, List.getElem?_toArray, List.getElem?_cons_zero, List.getElem?_cons_succ, Option.map_some]
        repeat (first
          | ((with_reducible refine wpD_p (fun K hK => ?_)); go_simp; refine hK _ ?_; clear hK K)
          | ((with_reducible refine wpD_q (fun K hK => ?_)); go_simp; (first | refine hK _ ?_ | (go_bits; refine hK _ ?_) | (go_bits; go_simp; refine hK _ ?_)); clear hK K)
          | ((with_reducible refine wpD_g (fun K hK => ?_)); go_simp; refine hK _ _ ?_; clear hK K)
          | ((with_reducible refine wpD_g (fun K hK => ?_)); go_simp; refine ⟨Grew.of_alloc _, hK _ _ ?_⟩; clear hK K)
          | ((with_reducible refine wpD_g (fun K hK => ?_)); go_simp; go_at_call 139; refine ((hS.out.below (by repeat (first | with_reducible (first | exact bl_refl _ | assumption | refine bl_al ?_ _ | refine bl_dr ?_ | refine bl_tr ?_ (by assumption) | refine bl_set ?_ ?_ _ | exact Nat.le_refl _) | omega | (simp only [World.size_alloc, World.size_setCell, World.size_drew] at *; omega) | (dsimp only; omega) | (simp; done) | (simp; omega)))).set hv2H.out).mono ?_; rintro e w1 ⟨rfl, hb1⟩; refine ⟨_, rfl, hb1, hK _ _ ?_⟩; clear hK K; obtain ⟨chb1, fhb1, shb1, thb1⟩ := bcell hb1; (try have bhb10 := shb1 (p) (by go_simp)); have cq1 := (hb1.cell (p := ⟨p, o + 2, none⟩) (by simpa using lp)).trans (show _ = some (Value.slice A 0 ca) by simpa using cq); have ct1 := (hb1.cell (p := ⟨p, o + 3, none⟩) (by simpa using lp)).trans (show _ = some (Value.int .i64 t) by simpa using ct))
          | ((with_reducible refine wpD_g (fun K hK => ?_)); go_simp; go_at_call 101; refine ((hS.out.below (by repeat (first | with_reducible (first | exact bl_refl _ | assumption | refine bl_al ?_ _ | refine bl_dr ?_ | refine bl_tr ?_ (by assumption) | refine bl_set ?_ ?_ _ | exact Nat.le_refl _) | omega | (simp only [World.size_alloc, World.size_setCell, World.size_drew] at *; omega) | (dsimp only; omega) | (simp; done) | (simp; omega)))).form hv3H.out).mono ?_; rintro e w2 ⟨rfl, hb2⟩; refine ⟨_, rfl, hb2, hK _ _ ?_⟩; clear hK K; obtain ⟨chb2, fhb2, shb2, thb2⟩ := bcell hb2; (try have bhb20 := shb2 (p) (by go_simp)); have cq2 := (hb2.cell (p := ⟨p, o + 2, none⟩) bhb10).trans cq1; have ct2 := (hb2.cell (p := ⟨p, o + 3, none⟩) bhb10).trans ct1))
        with_reducible refine wpD_nil ?_
        go_wp2
        go_ret
        exact ⟨ret_bool hr.out, by repeat (first | with_reducible (first | exact bl_refl _ | assumption | refine bl_al ?_ _ | refine bl_dr ?_ | refine bl_tr ?_ (by assumption) | refine bl_set ?_ ?_ _ | exact Nat.le_refl _) | omega | (simp only [World.size_alloc, World.size_setCell, World.size_drew] at *; omega) | (dsimp only; omega) | (simp; done) | (simp; omega))⟩
      · have hqd : ((q : Int) == 0) = false := by simp; omega
        have hqH := Lib.hid hq1
        cases htm : tempB t
        · have htH := Lib.hid htm
          have hr := Lib.hid (show false = sysOkB gs ts xs t by unfold sysOkB; rw [← isStabR_range hvH.out htm]; simp)
          clear htm
          go_enter Tryz.func100, Tryz.ntmps100
          go_wp2
          refine wp_region_ord [(0, .q), (1, .q), (2, .q), (3, .g), (4, .q), (5, .q), (6, .q), (7, .q), (8, .q), (9, .q), (10, .q), (11, .q), (12, .g), (13, .q), (14, .q), (15, .q), (16, .q), (17, .q), (18, .q), (19, .q), (20, .q), (21, .q), (22, .q), (23, .q), (24, .q), (25, .q), (26, .q), (27, .q), (28, .q), (29, .g), (30, .q), (31, .q)] (by kernel_rfl) (by kernel_rfl) ?_
          simp only [pick, List.filterMap_cons, List.filterMap_nil, List.getElem?_toArray, List.getElem?_cons_zero, List.getElem?_cons_succ, Option.map_some]
          repeat (first
            | ((with_reducible refine wpD_p (fun K hK => ?_)); go_simp; refine hK _ ?_; clear hK K)
            | ((with_reducible refine wpD_q (fun K hK => ?_)); go_simp; (first | refine hK _ ?_ | (go_bits; refine hK _ ?_) | (go_bits; go_simp; refine hK _ ?_)); clear hK K)
            | ((with_reducible refine wpD_g (fun K hK => ?_)); go_simp; refine hK _ _ ?_; clear hK K)
            | ((with_reducible refine wpD_g (fun K hK => ?_)); go_simp; refine ⟨Grew.of_alloc _, hK _ _ ?_⟩; clear hK K)
            | ((with_reducible refine wpD_g (fun K hK => ?_)); go_simp; go_at_call 139; refine ((hS.out.below (by repeat (first | with_reducible (first | exact bl_refl _ | assumption | refine bl_al ?_ _ | refine bl_dr ?_ | refine bl_tr ?_ (by assumption) | refine bl_set ?_ ?_ _ | exact Nat.le_refl _) | omega | (simp only [World.size_alloc, World.size_setCell, World.size_drew] at *; omega) | (dsimp only; omega) | (simp; done) | (simp; omega)))).set hv2H.out).mono ?_; rintro e w1 ⟨rfl, hb1⟩; refine ⟨_, rfl, hb1, hK _ _ ?_⟩; clear hK K; obtain ⟨chb1, fhb1, shb1, thb1⟩ := bcell hb1; (try have bhb10 := shb1 (p) (by go_simp)); have cq1 := (hb1.cell (p := ⟨p, o + 2, none⟩) (by simpa using lp)).trans (show _ = some (Value.slice A q ca) by simpa using cq); have ct1 := (hb1.cell (p := ⟨p, o + 3, none⟩) (by simpa using lp)).trans (show _ = some (Value.int .i64 t) by simpa using ct))
            | ((with_reducible refine wpD_g (fun K hK => ?_)); go_simp; go_at_call 101; refine ((hS.out.below (by repeat (first | with_reducible (first | exact bl_refl _ | assumption | refine bl_al ?_ _ | refine bl_dr ?_ | refine bl_tr ?_ (by assumption) | refine bl_set ?_ ?_ _ | exact Nat.le_refl _) | omega | (simp only [World.size_alloc, World.size_setCell, World.size_drew] at *; omega) | (dsimp only; omega) | (simp; done) | (simp; omega)))).form hv3H.out).mono ?_; rintro e w2 ⟨rfl, hb2⟩; refine ⟨_, rfl, hb2, hK _ _ ?_⟩; clear hK K; obtain ⟨chb2, fhb2, shb2, thb2⟩ := bcell hb2; (try have bhb20 := shb2 (p) (by go_simp)); have cq2 := (hb2.cell (p := ⟨p, o + 2, none⟩) bhb10).trans cq1; have ct2 := (hb2.cell (p := ⟨p, o + 3, none⟩) bhb10).trans ct1)
            | ((with_reducible refine wpD_g (fun K hK => ?_)); go_simp; go_at_call 140; refine (l07Temperature_at t _ htH.out).mono ?_; rintro e _ ⟨rfl, rfl⟩; refine ⟨_, rfl, Below.refl _ _, hK _ _ ?_⟩; clear hK K))
          with_reducible refine wpD_nil ?_
          go_wp2
          go_ret
          exact ⟨ret_bool hr.out, by repeat (first | with_reducible (first | exact bl_refl _ | assumption | refine bl_al ?_ _ | refine bl_dr ?_ | refine bl_tr ?_ (by assumption) | refine bl_set ?_ ?_ _ | exact Nat.le_refl _) | omega | (simp only [World.size_alloc, World.size_setCell, World.size_drew] at *; omega) | (dsimp only; omega) | (simp; done) | (simp; omega))⟩
        · have htH := Lib.hid htm
          obtain ⟨tn, rfl, ht1, ht2⟩ := tempB_true htm
          have hrr := isStabR_yes hvH.out htm
          have hrH := Lib.hid hrr
          have hsy := Lib.hid (show (isStabR gs ts xs tn).1 = sysOkB gs ts xs tn by unfold sysOkB; rw [hlenH.out, decide_eq_true (show 0 < q by omega), Bool.true_and])
          clear htm hrr
          rcases isStabR_cases gs ts xs tn with ⟨c, hc, hcr⟩ | ⟨b, hcr⟩
          · have hcrH := Lib.hid hcr
            clear hcr
            go_enter Tryz.func100, Tryz.ntmps100
            go_wp2
            refine wp_region_ord [(0, .q), (1, .q), (2, .q), (3, .g), (4, .q), (5, .q), (6, .q), (7, .q), (8, .q), (9, .q), (10, .q), (11, .q), (12, .g), (13, .q), (14, .q), (15, .q), (16, .q), (17, .q), (18, .q), (19, .q), (20, .q), (21, .q), (22, .q), (23, .q), (24, .q), (25, .q), (26, .q), (27, .q), (28, .q), (29, .g), (30, .q), (31, .q)] (by kernel_rfl) (by kernel_rfl) ?_
            simp only [pick, List.filterMap_cons, List.filterMap_nil, List.getElem?_toArray, List.getElem?_cons_zero, List.getElem?_cons_succ, Option.map_some]
            repeat (first
              | ((with_reducible refine wpD_p (fun K hK => ?_)); go_simp; refine hK _ ?_; clear hK K)
              | ((with_reducible refine wpD_q (fun K hK => ?_)); go_simp; (first | refine hK _ ?_ | (go_bits; refine hK _ ?_) | (go_bits; go_simp; refine hK _ ?_)); clear hK K)
              | ((with_reducible refine wpD_g (fun K hK => ?_)); go_simp; refine hK _ _ ?_; clear hK K)
              | ((with_reducible refine wpD_g (fun K hK => ?_)); go_simp; refine ⟨Grew.of_alloc _, hK _ _ ?_⟩; clear hK K)
              | ((with_reducible refine wpD_g (fun K hK => ?_)); go_simp; go_at_call 139; refine ((hS.out.below (by repeat (first | with_reducible (first | exact bl_refl _ | assumption | refine bl_al ?_ _ | refine bl_dr ?_ | refine bl_tr ?_ (by assumption) | refine bl_set ?_ ?_ _ | exact Nat.le_refl _) | omega | (simp only [World.size_alloc, World.size_setCell, World.size_drew] at *; omega) | (dsimp only; omega) | (simp; done) | (simp; omega)))).set hv2H.out).mono ?_; rintro e w1 ⟨rfl, hb1⟩; refine ⟨_, rfl, hb1, hK _ _ ?_⟩; clear hK K; obtain ⟨chb1, fhb1, shb1, thb1⟩ := bcell hb1; (try have bhb10 := shb1 (p) (by go_simp)); have cq1 := (hb1.cell (p := ⟨p, o + 2, none⟩) (by simpa using lp)).trans (show _ = some (Value.slice A q ca) by simpa using cq); have ct1 := (hb1.cell (p := ⟨p, o + 3, none⟩) (by simpa using lp)).trans (show _ = some (Value.int .i64 (tn : Int)) by simpa using ct))
              | ((with_reducible refine wpD_g (fun K hK => ?_)); go_simp; go_at_call 101; refine ((hS.out.below (by repeat (first | with_reducible (first | exact bl_refl _ | assumption | refine bl_al ?_ _ | refine bl_dr ?_ | refine bl_tr ?_ (by assumption) | refine bl_set ?_ ?_ _ | exact Nat.le_refl _) | omega | (simp only [World.size_alloc, World.size_setCell, World.size_drew] at *; omega) | (dsimp only; omega) | (simp; done) | (simp; omega)))).form hv3H.out).mono ?_; rintro e w2 ⟨rfl, hb2⟩; refine ⟨_, rfl, hb2, hK _ _ ?_⟩; clear hK K; obtain ⟨chb2, fhb2, shb2, thb2⟩ := bcell hb2; (try have bhb20 := shb2 (p) (by go_simp)); have cq2 := (hb2.cell (p := ⟨p, o + 2, none⟩) bhb10).trans cq1; have ct2 := (hb2.cell (p := ⟨p, o + 3, none⟩) bhb10).trans ct1)
              | ((with_reducible refine wpD_g (fun K hK => ?_)); go_simp; go_at_call 140; refine (l07Temperature_at tn _ htH.out).mono ?_; rintro e _ ⟨rfl, rfl⟩; refine ⟨_, rfl, Below.refl _ _, hK _ _ ?_⟩; clear hK K))
            with_reducible refine wpD_nil ?_
            go_wp2
            refine wp_region_ord [(0, .q), (1, .q), (2, .q), (3, .q), (4, .q), (5, .q), (6, .q), (7, .q), (8, .q), (9, .q), (10, .g), (11, .q), (12, .q), (13, .q), (14, .q), (15, .q)] (by kernel_rfl) (by kernel_rfl) ?_
            simp only [pick, List.filterMap_cons, List.filterMap_nil, List.getElem?_toArray, List.getElem?_cons_zero, List.getElem?_cons_succ, Option.map_some]
            repeat (first | ((with_reducible refine wpD_p (fun K hK => ?_)); go_simp; refine hK _ ?_; clear hK K) | ((with_reducible refine wpD_q (fun K hK => ?_)); go_simp; (first | refine hK _ ?_ | (go_bits; refine hK _ ?_) | (go_bits; go_simp; refine hK _ ?_)); clear hK K))
            with_reducible refine wpD_g (fun K hK => ?_)
            go_simp
            refine (l07Stable_any (hS.out.below (by repeat (first | with_reducible (first | exact bl_refl _ | assumption | refine bl_al ?_ _ | refine bl_dr ?_ | refine bl_tr ?_ (by assumption) | refine bl_set ?_ ?_ _ | exact Nat.le_refl _) | omega | (simp only [World.size_alloc, World.size_setCell, World.size_drew] at *; omega) | (dsimp only; omega) | (simp; done) | (simp; omega)))) hV tn (by omega)).mono ?_
            rw [hrH.out, hcrH.out]
            rintro e w3 ⟨rfl, hb3⟩
            refine ⟨_, rfl, hb3, hK _ _ ?_⟩
            clear hK K
            repeat (first | ((with_reducible refine wpD_p (fun K hK => ?_)); go_simp; refine hK _ ?_; clear hK K) | ((with_reducible refine wpD_q (fun K hK => ?_)); go_simp; (first | refine hK _ ?_ | (go_bits; refine hK _ ?_) | (go_bits; go_simp; refine hK _ ?_)); clear hK K))
            with_reducible refine wpD_nil ?_
            go_wp2
            go_ret
            exact ⟨ret_bool (by rw [← hsy.out, hcrH.out]), by repeat (first | with_reducible (first | exact bl_refl _ | assumption | refine bl_al ?_ _ | refine bl_dr ?_ | refine bl_tr ?_ (by assumption) | refine bl_set ?_ ?_ _ | exact Nat.le_refl _) | omega | (simp only [World.size_alloc, World.size_setCell, World.size_drew] at *; omega) | (dsimp only; omega) | (simp; done) | (simp; omega))⟩
          · have hcrH := Lib.hid hcr
            clear hcr
            cases b
            all_goals
              go_enter Tryz.func100, Tryz.ntmps100
              go_wp2
              refine wp_region_ord [(0, .q), (1, .q), (2, .q), (3, .g), (4, .q), (5, .q), (6, .q), (7, .q), (8, .q), (9, .q), (10, .q), (11, .q), (12, .g), (13, .q), (14, .q), (15, .q), (16, .q), (17, .q), (18, .q), (19, .q), (20, .q), (21, .q), (22, .q), (23, .q), (24, .q), (25, .q), (26, .q), (27, .q), (28, .q), (29, .g), (30, .q), (31, .q)] (by kernel_rfl) (by kernel_rfl) ?_
              simp only [pick, List.filterMap_cons, List.filterMap_nil, List.getElem?_toArray, List.getElem?_cons_zero, List.getElem?_cons_succ, Option.map_some]
              repeat (first
                | ((with_reducible refine wpD_p (fun K hK => ?_)); go_simp; refine hK _ ?_; clear hK K)
                | ((with_reducible refine wpD_q (fun K hK => ?_)); go_simp; (first | refine hK _ ?_ | (go_bits; refine hK _ ?_) | (go_bits; go_simp; refine hK _ ?_)); clear hK K)
                | ((with_reducible refine wpD_g (fun K hK => ?_)); go_simp; refine hK _ _ ?_; clear hK K)
                | ((with_reducible refine wpD_g (fun K hK => ?_)); go_simp; refine ⟨Grew.of_alloc _, hK _ _ ?_⟩; clear hK K)
                | ((with_reducible refine wpD_g (fun K hK => ?_)); go_simp; go_at_call 139; refine ((hS.out.below (by repeat (first | with_reducible (first | exact bl_refl _ | assumption | refine bl_al ?_ _ | refine bl_dr ?_ | refine bl_tr ?_ (by assumption) | refine bl_set ?_ ?_ _ | exact Nat.le_refl _) | omega | (simp only [World.size_alloc, World.size_setCell, World.size_drew] at *; omega) | (dsimp only; omega) | (simp; done) | (simp; omega)))).set hv2H.out).mono ?_; rintro e w1 ⟨rfl, hb1⟩; refine ⟨_, rfl, hb1, hK _ _ ?_⟩; clear hK K; obtain ⟨chb1, fhb1, shb1, thb1⟩ := bcell hb1; (try have bhb10 := shb1 (p) (by go_simp)); have cq1 := (hb1.cell (p := ⟨p, o + 2, none⟩) (by simpa using lp)).trans (show _ = some (Value.slice A q ca) by simpa using cq); have ct1 := (hb1.cell (p := ⟨p, o + 3, none⟩) (by simpa using lp)).trans (show _ = some (Value.int .i64 (tn : Int)) by simpa using ct))
                | ((with_reducible refine wpD_g (fun K hK => ?_)); go_simp; go_at_call 101; refine ((hS.out.below (by repeat (first | with_reducible (first | exact bl_refl _ | assumption | refine bl_al ?_ _ | refine bl_dr ?_ | refine bl_tr ?_ (by assumption) | refine bl_set ?_ ?_ _ | exact Nat.le_refl _) | omega | (simp only [World.size_alloc, World.size_setCell, World.size_drew] at *; omega) | (dsimp only; omega) | (simp; done) | (simp; omega)))).form hv3H.out).mono ?_; rintro e w2 ⟨rfl, hb2⟩; refine ⟨_, rfl, hb2, hK _ _ ?_⟩; clear hK K; obtain ⟨chb2, fhb2, shb2, thb2⟩ := bcell hb2; (try have bhb20 := shb2 (p) (by go_simp)); have cq2 := (hb2.cell (p := ⟨p, o + 2, none⟩) bhb10).trans cq1; have ct2 := (hb2.cell (p := ⟨p, o + 3, none⟩) bhb10).trans ct1)
                | ((with_reducible refine wpD_g (fun K hK => ?_)); go_simp; go_at_call 140; refine (l07Temperature_at tn _ htH.out).mono ?_; rintro e _ ⟨rfl, rfl⟩; refine ⟨_, rfl, Below.refl _ _, hK _ _ ?_⟩; clear hK K))
              with_reducible refine wpD_nil ?_
              go_wp2
              refine wp_region_ord [(0, .q), (1, .q), (2, .q), (3, .q), (4, .q), (5, .q), (6, .q), (7, .q), (8, .q), (9, .q), (10, .g), (11, .q), (12, .q), (13, .q), (14, .q), (15, .q)] (by kernel_rfl) (by kernel_rfl) ?_
              simp only [pick, List.filterMap_cons, List.filterMap_nil, List.getElem?_toArray, List.getElem?_cons_zero, List.getElem?_cons_succ, Option.map_some]
              repeat (first | ((with_reducible refine wpD_p (fun K hK => ?_)); go_simp; refine hK _ ?_; clear hK K) | ((with_reducible refine wpD_q (fun K hK => ?_)); go_simp; (first | refine hK _ ?_ | (go_bits; refine hK _ ?_) | (go_bits; go_simp; refine hK _ ?_)); clear hK K))
              with_reducible refine wpD_g (fun K hK => ?_)
              go_simp
              refine (l07Stable_any (hS.out.below (by repeat (first | with_reducible (first | exact bl_refl _ | assumption | refine bl_al ?_ _ | refine bl_dr ?_ | refine bl_tr ?_ (by assumption) | refine bl_set ?_ ?_ _ | exact Nat.le_refl _) | omega | (simp only [World.size_alloc, World.size_setCell, World.size_drew] at *; omega) | (dsimp only; omega) | (simp; done) | (simp; omega)))) hV tn (by omega)).mono ?_
              rw [hrH.out, hcrH.out]
              rintro e w3 ⟨rfl, hb3⟩
              refine ⟨_, rfl, hb3, hK _ _ ?_⟩
              clear hK K
              repeat (first | ((with_reducible refine wpD_p (fun K hK => ?_)); go_simp; refine hK _ ?_; clear hK K) | ((with_reducible refine wpD_q (fun K hK => ?_)); go_simp; (first | refine hK _ ?_ | (go_bits; refine hK _ ?_) | (go_bits; go_simp; refine hK _ ?_)); clear hK K))
              with_reducible refine wpD_nil ?_
              go_wp2
              go_ret
              exact ⟨ret_bool (by rw [← hsy.out, hcrH.out]), by repeat (first | with_reducible (first | exact bl_refl _ | assumption | refine bl_al ?_ _ | refine bl_dr ?_ | refine bl_tr ?_ (by assumption) | refine bl_set ?_ ?_ _ | exact Nat.le_refl _) | omega | (simp only [World.size_alloc, World.size_setCell, World.size_drew] at *; omega) | (dsimp only; omega) | (simp; done) | (simp; omega))⟩
set_option maxRecDepth 100000 in
set_option maxHeartbeats 2000000 in
theorem ValidSystem_any (G T A : Option Addr) (n cg m ct q ca : Nat) (gs : List Gl) (ts : List Ti) (xs : List Pl) (t : Int) (w : World) (h : SA w G n T m A q gs ts xs) :
    Calls Tryz.prog 146 #[.agg #[.slice G n cg, .slice T m ct, .slice A q ca, .int .i64 t]] w fun e w' => e = .returned (.bool (sysOkB gs ts xs t)) ∧ Below w.heap.size w w' := by
  
  have hSA := Lib.hid h
  have hlen := Lib.hid h.A.len
  have hq0 := h.q
  clear h
  by_cases hq1 : q = 0
  · subst hq1
    have hr := Lib.hid (show false = sysOkB gs ts xs t by unfold sysOkB; rw [hlen.out]; rfl)
    go_enter Tryz.func146, Tryz.ntmps146
    go_wp2
    go_ret
    exact ⟨ret_bool hr.out, by repeat (first | with_reducible (first | exact bl_refl _ | assumption | refine bl_al ?_ _ | refine bl_dr ?_ | refine bl_tr ?_ (by assumption) | refine bl_set ?_ ?_ _ | exact Nat.le_refl _) | omega | (simp only [World.size_alloc, World.size_setCell, World.size_drew] at *; omega) | (dsimp only; omega) | (simp; done) | (simp; omega))⟩
  · have hqd : ((q : Int) == 0) = false := by simp; omega
    have hsy := Lib.hid (show (isStabR gs ts xs t).1 = sysOkB gs ts xs t by unfold sysOkB; rw [hlen.out, decide_eq_true (show 0 < q by omega), Bool.true_and])
    rcases isStabR_cases gs ts xs t with ⟨c, hc, hcr⟩ | ⟨b, hcr⟩
    · have hcrH := Lib.hid hcr
      clear hcr
      go_enter Tryz.func146, Tryz.ntmps146
      go_wp2_with (go_at_call 173; refine (IsStable_any G T A n cg m ct q ca gs ts xs t _ (hSA.out.below (by repeat (first | with_reducible (first | exact bl_refl _ | assumption | refine bl_al ?_ _ | refine bl_dr ?_ | refine bl_tr ?_ (by assumption) | refine bl_set ?_ ?_ _ | exact Nat.le_refl _) | omega | (simp only [World.size_alloc, World.size_setCell, World.size_drew] at *; omega) | (dsimp only; omega) | (simp; done) | (simp; omega))))).mono ?_; rw [hcrH.out]; rintro e w1 ⟨rfl, hb1⟩)
      go_ret
      exact ⟨ret_bool (by rw [← hsy.out, hcrH.out]), by repeat (first | with_reducible (first | exact bl_refl _ | assumption | refine bl_al ?_ _ | refine bl_dr ?_ | refine bl_tr ?_ (by assumption) | refine bl_set ?_ ?_ _ | exact Nat.le_refl _) | omega | (simp only [World.size_alloc, World.size_setCell, World.size_drew] at *; omega) | (dsimp only; omega) | (simp; done) | (simp; omega))⟩
    · have hcrH := Lib.hid hcr
      clear hcr
      cases b
      all_goals
        go_enter Tryz.func146, Tryz.ntmps146
        go_wp2_with (go_at_call 173; refine (IsStable_any G T A n cg m ct q ca gs ts xs t _ (hSA.out.below (by repeat (first | with_reducible (first | exact bl_refl _ | assumption | refine bl_al ?_ _ | refine bl_dr ?_ | refine bl_tr ?_ (by assumption) | refine bl_set ?_ ?_ _ | exact Nat.le_refl _) | omega | (simp only [World.size_alloc, World.size_setCell, World.size_drew] at *; omega) | (dsimp only; omega) | (simp; done) | (simp; omega))))).mono ?_; rw [hcrH.out]; rintro e w1 ⟨rfl, hb1⟩)
        go_ret
        exact ⟨ret_bool (by rw [← hsy.out, hcrH.out]), by repeat (first | with_reducible (first | exact bl_refl _ | assumption | refine bl_al ?_ _ | refine bl_dr ?_ | refine bl_tr ?_ (by assumption) | refine bl_set ?_ ?_ _ | exact Nat.le_refl _) | omega | (simp only [World.size_alloc, World.size_setCell, World.size_drew] at *; omega) | (dsimp only; omega) | (simp; done) | (simp; omega))⟩
end Go.Proofs.YtglcpphfmmnmkaaGreat
/- Walks: the tile at a point; with what strength a tile binds at a point. -/

namespace Go.Proofs.YtglcpphfmmnmkaaGreat
open Go.RowKit Go.Shelf
attribute [local go_sem] BelowBy.cell BelowBy.cell_drew stillUpon givesUpon BelowBy.cell_drew2 BelowBy.cell_drew3

/-- the tile at a point, or -1 -/
noncomputable def atI (xs : List Pl) (x y : Int) : Int := if placeI xs x y < 0 then -1 else match xs[(placeI xs x y).toNat]? with
  | some e => e.t
  | none => -1
theorem atI_none {xs : List Pl} {x y : Int} (h : placeI xs x y = -1) : atI xs x y = -1 := by unfold atI; rw [h, if_pos (by decide)]
theorem atI_some {xs : List Pl} {x y : Int} {k : Nat} {e : Pl} (h : placeI xs x y = k) (he : xs[k]? = some e) : atI xs x y = e.t := by
  unfold atI; rw [h, if_neg (by omega)]
  have : ((k : Nat) : Int).toNat = k := by omega
  simp only [this, he]
theorem atI_cases {gs : List Gl} {ts : List Ti} {xs : List Pl} (hV : Valid gs ts xs) (x y : Int) : (placeI xs x y = -1 ∧ atI xs x y = -1) ∨ ∃ (k t : Nat) (e : Pl), placeI xs x y = k ∧ xs[k]? = some e ∧ e.t = t ∧ t < ts.length ∧ atI xs x y = t := by
  rcases placeI_cases xs x y with h | ⟨k, h, hk⟩
  · exact Or.inl ⟨h, atI_none h⟩
  · have he := List.getElem?_eq_getElem hk
    obtain ⟨t, ht, htl⟩ := hV.ti k _ he
    exact Or.inr ⟨k, t, _, h, he, ht, htl, by rw [atI_some h he, ht]⟩
noncomputable def bindN (gs : List Gl) (ts : List Ti) (xs : List Pl) (x y : Int) (t : Nat) : Nat → Int
  | 0 => 0
  | k + 1 => bindN gs ts xs x y t k + (if 0 ≤ atI xs (stepX x k) (stepY y k) then bondI gs ts t k (atI xs (stepX x k) (stepY y k)).toNat else 0)
theorem strI_nonneg {gs : List Gl} {ts : List Ti} {xs : List Pl} (hV : Valid gs ts xs) (v : Int) : 0 ≤ strI gs v := by
  unfold strI
  split
  · decide
  · split
    · decide
    · rename_i g hg
      have := (hV.str _ _ hg).1
      omega
theorem bondI_nonneg {gs : List Gl} {ts : List Ti} {xs : List Pl} (hV : Valid gs ts xs) (a d b : Nat) : 0 ≤ bondI gs ts a d b := by
  unfold bondI
  split
  · exact strI_nonneg hV _
  · decide
theorem bindN_bound {gs : List Gl} {ts : List Ti} {xs : List Pl} (hV : Valid gs ts xs) (x y : Int) (t k : Nat) : 0 ≤ bindN gs ts xs x y t k ∧ bindN gs ts xs x y t k ≤ 4 * (k : Int) := by
  induction k with
  | zero => simp [bindN]
  | succ k ih =>
    simp only [bindN]
    have h1 := bondI_nonneg hV t k (atI xs (stepX x k) (stepY y k)).toNat
    have h2 := bondI_le hV t k (atI xs (stepX x k) (stepY y k)).toNat
    split <;> omega
set_option maxHeartbeats 1000000 in
theorem at_any (A : Option Addr) (n c : Nat) (gs : List Gl) (ts : List Ti) (xs : List Pl) (x y : Int) (w : World) (h2 : RdSl 3 RPl w A n xs) (hV : Valid gs ts xs) :
    Calls Tryz.prog 58 #[.agg #[.slice A n c], .agg #[.int .i64 x, .int .i64 y]] w fun e w' => e = .returned (.int .i64 (atI xs x y)) ∧ Below w.heap.size w w' := by
  have hl := h2.len
  have h2H := Lib.hid h2
  clear h2
  go_enter Tryz.func58, Tryz.ntmps58
  go_wp2_with fail
  refine (BinarySearch_any _ _ _ gs ts xs _ _ _ (h2H.out.below RPl.stable (by repeat (first | with_reducible (first | exact bl_refl _ | assumption | refine bl_al ?_ _ | refine bl_dr ?_ | refine bl_tr ?_ (by assumption) | refine bl_set ?_ ?_ _ | exact Nat.le_refl _) | omega | (simp only [World.size_alloc, World.size_setCell, World.size_drew] at *; omega) | (dsimp only; omega) | (simp; done) | (simp; omega)))) hV).mono ?_
  rintro e w1 ⟨r, b, rfl, ⟨hp, hr0⟩, hb1⟩
  cases b
  · have hpH := Lib.hid (atI_none hp.symm)
    clear hp
    go_wp2
    go_ret
    exact ⟨ret_int hpH.out.symm, by repeat (first | with_reducible (first | exact bl_refl _ | assumption | refine bl_al ?_ _ | refine bl_dr ?_ | refine bl_tr ?_ (by assumption) | refine bl_set ?_ ?_ _ | exact Nat.le_refl _) | omega | (simp only [World.size_alloc, World.size_setCell, World.size_drew] at *; omega) | (dsimp only; omega) | (simp; done) | (simp; omega))⟩
  · simp only [if_true] at hp
    rcases atI_cases hV x y with ⟨h1, _⟩ | ⟨k, t, e, h1, he, ht, htl, hat⟩
    · rw [h1] at hp
      omega
    · obtain rfl : r = (k : Int) := by rw [hp, h1]
      have hk : k < n := by rw [← hl]; exact lt_of_get he
      have hA1 := h2H.out.below RPl.stable (show Below w.heap.size w w1 by repeat (first | with_reducible (first | exact bl_refl _ | assumption | refine bl_al ?_ _ | refine bl_dr ?_ | refine bl_tr ?_ (by assumption) | refine bl_set ?_ ?_ _ | exact Nat.le_refl _) | omega | (simp only [World.size_alloc, World.size_setCell, World.size_drew] at *; omega) | (dsimp only; omega) | (simp; done) | (simp; omega)))
      obtain ⟨bb, o, rfl, hb, hc⟩ := hA1.ptr (by omega)
      obtain ⟨c0, c1, c2⟩ := hc k e he
      obtain ⟨chb1, fhb1, shb1, thb1⟩ := bcell hb1
      have hatH := Lib.hid hat
      rw [ht] at c2
      have hk0 : (0 : Int) ≤ (k : Int) := by omega
      clear hp h1 he hat hc ht hA1 hl
      go_wp2
      go_ret
      exact ⟨ret_int hatH.out.symm, by repeat (first | with_reducible (first | exact bl_refl _ | assumption | refine bl_al ?_ _ | refine bl_dr ?_ | refine bl_tr ?_ (by assumption) | refine bl_set ?_ ?_ _ | exact Nat.le_refl _) | omega | (simp only [World.size_alloc, World.size_setCell, World.size_drew] at *; omega) | (dsimp only; omega) | (simp; done) | (simp; omega))⟩
theorem l03Index_at {op p : Nat} {gs : List Gl} {ts : List Ti} {xs : List Pl} {x y r : Int} {w : World} (ha : AsmAt w p op xs) (hV : Valid gs ts xs) (h : placeI xs x y = r) :
    Calls Tryz.prog 53 #[.pointer (some ⟨p, op, none⟩), .agg #[.int .i64 x, .int .i64 y]] w fun e w' => e = .returned (.int .i64 r) ∧ Below w.heap.size w w' := by
  rw [← h]; exact l03Index_any p gs ts xs x y w ha hV
theorem at_at {A : Option Addr} {n c : Nat} {gs : List Gl} {ts : List Ti} {xs : List Pl} {x y r : Int} {w : World} (h2 : RdSl 3 RPl w A n xs) (hV : Valid gs ts xs) (h : atI xs x y = r) :
    Calls Tryz.prog 58 #[.agg #[.slice A n c], .agg #[.int .i64 x, .int .i64 y]] w fun e w' => e = .returned (.int .i64 r) ∧ Below w.heap.size w w' := by
  rw [← h]; exact at_any A n c gs ts xs x y w h2 hV
set_option maxHeartbeats 1000000 in
theorem l03At_any {op : Nat} (p : Nat) (gs : List Gl) (ts : List Ti) (xs : List Pl) (x y r : Int) (w : World) (ha : AsmAt w p op xs) (hV : Valid gs ts xs) (hr : atI xs x y = r) :
    Calls Tryz.prog 102 #[.pointer (some ⟨p, op, none⟩), .agg #[.int .i64 x, .int .i64 y]] w fun e w' => e = .returned (.int .i64 r) ∧ Below w.heap.size w w' := by
  
  obtain ⟨hlt, ⟨A, n, c, h1, h2⟩⟩ := id ha
  have hl := h2.len
  subst hr
  rcases atI_cases hV x y with ⟨h0, hat⟩ | ⟨k, t, e, h0, he, ht, htl, hat⟩
  · have hatH := Lib.hid hat
    have h0H := Lib.hid h0
    clear hat h0 h2
    go_enter Tryz.func102, Tryz.ntmps102
    go_wp2_with fail
    refine (l03Index_at (ha.below (by repeat (first | with_reducible (first | exact bl_refl _ | assumption | refine bl_al ?_ _ | refine bl_dr ?_ | refine bl_tr ?_ (by assumption) | refine bl_set ?_ ?_ _ | exact Nat.le_refl _) | omega | (simp only [World.size_alloc, World.size_setCell, World.size_drew] at *; omega) | (dsimp only; omega) | (simp; done) | (simp; omega)))) hV h0H.out).mono ?_
    rintro e w1 ⟨rfl, hb1⟩
    go_wp2
    go_ret
    exact ⟨ret_int hatH.out.symm, by repeat (first | with_reducible (first | exact bl_refl _ | assumption | refine bl_al ?_ _ | refine bl_dr ?_ | refine bl_tr ?_ (by assumption) | refine bl_set ?_ ?_ _ | exact Nat.le_refl _) | omega | (simp only [World.size_alloc, World.size_setCell, World.size_drew] at *; omega) | (dsimp only; omega) | (simp; done) | (simp; omega))⟩
  · have hatH := Lib.hid hat
    have h0H := Lib.hid h0
    have hkn : k < n := by rw [← hl]; exact lt_of_get he
    obtain ⟨b, o, rfl, hb, hc⟩ := h2.ptr (by omega)
    obtain ⟨c0, c1, c2⟩ := hc k e he
    rw [ht] at c2
    have hk0 : (0 : Int) ≤ (k : Int) := by omega
    clear hat h0 h2 hc he ht hl
    go_enter Tryz.func102, Tryz.ntmps102
    go_wp2_with fail
    refine (l03Index_at (ha.below (by repeat (first | with_reducible (first | exact bl_refl _ | assumption | refine bl_al ?_ _ | refine bl_dr ?_ | refine bl_tr ?_ (by assumption) | refine bl_set ?_ ?_ _ | exact Nat.le_refl _) | omega | (simp only [World.size_alloc, World.size_setCell, World.size_drew] at *; omega) | (dsimp only; omega) | (simp; done) | (simp; omega)))) hV h0H.out).mono ?_
    rintro e w1 ⟨rfl, hb1⟩
    obtain ⟨chb1, fhb1, shb1, thb1⟩ := bcell hb1
    have k1 := shb1 p (by go_simp)
    have k2 := shb1 b (by go_simp)
    go_wp2
    go_ret
    exact ⟨ret_int hatH.out.symm, by repeat (first | with_reducible (first | exact bl_refl _ | assumption | refine bl_al ?_ _ | refine bl_dr ?_ | refine bl_tr ?_ (by assumption) | refine bl_set ?_ ?_ _ | exact Nat.le_refl _) | omega | (simp only [World.size_alloc, World.size_setCell, World.size_drew] at *; omega) | (dsimp only; omega) | (simp; done) | (simp; omega))⟩
end Go.Proofs.YtglcpphfmmnmkaaGreat
/- Walks: the code of a system and an assembly; a glue by its name; the name of a tile's side. -/


namespace Go.Proofs.YtglcpphfmmnmkaaGreat
open Go.RowKit Go.Shelf
attribute [local go_sem] BelowBy.cell BelowBy.cell_drew stillUpon givesUpon BelowBy.cell_drew2 BelowBy.cell_drew3

/-- the error for a system and an assembly -/
noncomputable def growB (gs : List Gl) (ts : List Ti) (xs : List Pl) (t : Int) (ys : List Pl) : Bool := sysOkB gs ts xs t && validAsmB gs ts ys
theorem growB_true {gs : List Gl} {ts : List Ti} {xs : List Pl} {t : Int} {ys : List Pl} (h : growB gs ts xs t ys = true) : sysOkB gs ts xs t = true ∧ validAsmB gs ts ys = true := by
  simpa [growB] using h
theorem validSet_of {gs : List Gl} {ts : List Ti} {xs : List Pl} (h : validAsmB gs ts xs = true) : validSetB gs ts = true := by
  unfold validAsmB at h; simp only [Bool.and_eq_true] at h; exact h.1
theorem formB_of {gs : List Gl} {ts : List Ti} {ys : List Pl} (h : validSetB gs ts = true) : (hasFormB ys && allB ys.length (okTile ts.length ys)) = validAsmB gs ts ys := by
  unfold validAsmB; rw [h, Bool.true_and]
theorem growthCode_at {G T A C : Option Addr} {n cg m ct q ca k cc : Nat} {gs : List Gl} {ts : List Ti} {xs ys : List Pl} {t : Int} {w : World} (h : SA w G n T m A q gs ts xs) (h2 : SA w G n T m C k gs ts ys) {r : Bool} (hr : growB gs ts xs t ys = r) :
    Calls Tryz.prog 104 #[.agg #[.slice G n cg, .slice T m ct, .slice A q ca, .int .i64 t], .agg #[.slice C k cc]] w fun e w' => e = .returned (.int .i64 (codeB r)) ∧ Below w.heap.size w w' := by
  
  have hS := Lib.hid h
  have hA := Lib.hid h2
  have hrH := Lib.hid hr
  clear h h2 hr
  cases hs : sysOkB gs ts xs t
  · have hsH := Lib.hid hs
    have hr0 : r = false := by rw [← hrH.out]; simp [growB, hs]
    subst hr0
    clear hs
    go_enter Tryz.func104, Tryz.ntmps104
    go_wp2_with (go_at_call 146; refine (ValidSystem_any G T A n cg m ct q ca gs ts xs t _ (hS.out.below (by repeat (first | with_reducible (first | exact bl_refl _ | assumption | refine bl_al ?_ _ | refine bl_dr ?_ | refine bl_tr ?_ (by assumption) | refine bl_set ?_ ?_ _ | exact Nat.le_refl _) | omega | (simp only [World.size_alloc, World.size_setCell, World.size_drew] at *; omega) | (dsimp only; omega) | (simp; done) | (simp; omega))))).mono ?_; rw [hsH.out]; rintro e w1 ⟨rfl, hb1⟩)
    go_ret
    exact ⟨rfl, by repeat (first | with_reducible (first | exact bl_refl _ | assumption | refine bl_al ?_ _ | refine bl_dr ?_ | refine bl_tr ?_ (by assumption) | refine bl_set ?_ ?_ _ | exact Nat.le_refl _) | omega | (simp only [World.size_alloc, World.size_setCell, World.size_drew] at *; omega) | (dsimp only; omega) | (simp; done) | (simp; omega))⟩
  · have hsH := Lib.hid hs
    have hr0 : validAsmB gs ts ys = r := by rw [← hrH.out]; simp [growB, hs]
    have hr0H := Lib.hid hr0
    clear hs hr0
    cases r
    all_goals
      go_enter Tryz.func104, Tryz.ntmps104
      go_wp2_with (go_at_call 146; refine (ValidSystem_any G T A n cg m ct q ca gs ts xs t _ (hS.out.below (by repeat (first | with_reducible (first | exact bl_refl _ | assumption | refine bl_al ?_ _ | refine bl_dr ?_ | refine bl_tr ?_ (by assumption) | refine bl_set ?_ ?_ _ | exact Nat.le_refl _) | omega | (simp only [World.size_alloc, World.size_setCell, World.size_drew] at *; omega) | (dsimp only; omega) | (simp; done) | (simp; omega))))).mono ?_; rw [hsH.out]; rintro e w1 ⟨rfl, hb1⟩; obtain ⟨chb1, fhb1, shb1, thb1⟩ := bcell hb1; (have b0 := shb1 w.heap.size (by go_simp)); (have b1 := shb1 (w.heap.size + 1) (by go_simp)))
      refine ((hA.out.below (by repeat (first | with_reducible (first | exact bl_refl _ | assumption | refine bl_al ?_ _ | refine bl_dr ?_ | refine bl_tr ?_ (by assumption) | refine bl_set ?_ ?_ _ | exact Nat.le_refl _) | omega | (simp only [World.size_alloc, World.size_setCell, World.size_drew] at *; omega) | (dsimp only; omega) | (simp; done) | (simp; omega)))).valid hr0H.out).mono ?_
      rintro e w2 ⟨rfl, hb2⟩
      go_wp2
      go_ret
      exact ⟨rfl, by repeat (first | with_reducible (first | exact bl_refl _ | assumption | refine bl_al ?_ _ | refine bl_dr ?_ | refine bl_tr ?_ (by assumption) | refine bl_set ?_ ?_ _ | exact Nat.le_refl _) | omega | (simp only [World.size_alloc, World.size_setCell, World.size_drew] at *; omega) | (dsimp only; omega) | (simp; done) | (simp; omega))⟩
theorem l08Asked_at {o p pa oa : Nat} {gs : List Gl} {ts : List Ti} {xs ys : List Pl} {t : Int} {w : World} (h : SysAt w p o gs ts xs t) (ha : AsmAt w pa oa ys) (hq : ys.length ≤ 1073741824) {r : Bool} (hr : growB gs ts xs t ys = r) :
    Calls Tryz.prog 81 #[.pointer (some ⟨p, o, none⟩), .pointer (some ⟨pa, oa, none⟩)] w fun e w' => e = .returned (.int .i64 (codeB r)) ∧ Below w.heap.size w w' := by
  
  have hS := Lib.hid h
  have hA := Lib.hid ha
  have hrH := Lib.hid hr
  have htm := h.sat.tm
  clear h ha hr
  cases hs : sysOkB gs ts xs t
  · have hsH := Lib.hid hs
    have hr0 : r = false := by rw [← hrH.out]; simp [growB, hs]
    subst hr0
    clear hs
    go_enter Tryz.func81, Tryz.ntmps81
    go_wp2_with (go_at_call 100; refine (l08Ok_any _ gs ts xs t _ hS.out).mono ?_; rw [hsH.out]; rintro e w1 ⟨rfl, hb1⟩)
    go_ret
    exact ⟨rfl, by repeat (first | with_reducible (first | exact bl_refl _ | assumption | refine bl_al ?_ _ | refine bl_dr ?_ | refine bl_tr ?_ (by assumption) | refine bl_set ?_ ?_ _ | exact Nat.le_refl _) | omega | (simp only [World.size_alloc, World.size_setCell, World.size_drew] at *; omega) | (dsimp only; omega) | (simp; done) | (simp; omega))⟩
  · have hsH := Lib.hid hs
    have hfo := Lib.hid (show (hasFormB ys && allB ys.length (okTile ts.length ys)) = r by rw [formB_of (validSet_of (sysOkB_valid hs).1), ← hrH.out]; simp [growB, hs])
    clear hs
    cases r
    all_goals
      go_enter Tryz.func81, Tryz.ntmps81
      go_wp2_with (first
        | (go_at_call 100; refine (l08Ok_any _ gs ts xs t _ hS.out).mono ?_; rw [hsH.out]; rintro e w1 ⟨rfl, hb1⟩)
        | (go_at_call 101; refine (l03Ok_any _ _ gs ts ys _ (hS.out.sat.s.below (by repeat (first | with_reducible (first | exact bl_refl _ | assumption | refine bl_al ?_ _ | refine bl_dr ?_ | refine bl_tr ?_ (by assumption) | refine bl_set ?_ ?_ _ | exact Nat.le_refl _) | omega | (simp only [World.size_alloc, World.size_setCell, World.size_drew] at *; omega) | (dsimp only; omega) | (simp; done) | (simp; omega)))) (hA.out.below (by repeat (first | with_reducible (first | exact bl_refl _ | assumption | refine bl_al ?_ _ | refine bl_dr ?_ | refine bl_tr ?_ (by assumption) | refine bl_set ?_ ?_ _ | exact Nat.le_refl _) | omega | (simp only [World.size_alloc, World.size_setCell, World.size_drew] at *; omega) | (dsimp only; omega) | (simp; done) | (simp; omega)))) hq (by omega)).mono ?_; rw [hfo.out]; rintro e w2 ⟨rfl, hb2⟩))
      go_ret
      exact ⟨rfl, by repeat (first | with_reducible (first | exact bl_refl _ | assumption | refine bl_al ?_ _ | refine bl_dr ?_ | refine bl_tr ?_ (by assumption) | refine bl_set ?_ ?_ _ | exact Nat.le_refl _) | omega | (simp only [World.size_alloc, World.size_setCell, World.size_drew] at *; omega) | (dsimp only; omega) | (simp; done) | (simp; omega))⟩
/-- a glue's number by its name, 0 if there is none -/
noncomputable def glueI (gs : List Gl) (s : ByteArray) : Nat := by
  classical
  exact match gs.findIdx? (fun g => decide (g.name = s)) with
    | some k => k + 1
    | none => 0
theorem glueI_at {gs : List Gl} {s : ByteArray} {k : Nat} {g : Gl} (hk : gs[k]? = some g) (h : g.name = s) (hb : ∀ j, j < k → ∀ e, gs[j]? = some e → e.name ≠ s) : glueI gs s = k + 1 := by
  classical
  obtain ⟨hkl, rfl⟩ := List.getElem?_eq_some_iff.1 hk
  have : gs.findIdx? (fun g => decide (g.name = s)) = some k := by
    rw [List.findIdx?_eq_some_iff_getElem]
    refine ⟨hkl, by simpa using h, fun j hj => ?_⟩
    have := hb j hj _ (List.getElem?_eq_getElem (by omega))
    simpa using this
  unfold glueI
  rw [this]
theorem glueI_none {gs : List Gl} {s : ByteArray} (hb : ∀ j, j < gs.length → ∀ e, gs[j]? = some e → e.name ≠ s) : glueI gs s = 0 := by
  classical
  have : gs.findIdx? (fun g => decide (g.name = s)) = none := by
    rw [List.findIdx?_eq_none_iff]
    intro e he
    obtain ⟨j, hj, rfl⟩ := List.mem_iff_getElem.1 he
    have := hb j hj _ (List.getElem?_eq_getElem hj)
    simpa using this
  unfold glueI
  rw [this]
set_option maxHeartbeats 1000000 in
theorem l02GlueN_any {op : Nat} (p : Nat) (gs : List Gl) (ts : List Ti) (s : ByteArray) (w : World) (h : SetAt w p op gs ts) (hm : gs.length ≤ 281474976710656) :
    Calls Tryz.prog 167 #[.pointer (some ⟨p, op, none⟩), .string s] w fun e w' => e = .returned (.int .i64 (glueI gs s : Int)) ∧ w = w' := by
  obtain ⟨hlt, ⟨A, n, c, h1, h2⟩, ⟨B, m, d, h3, h4⟩⟩ := h
  have hl := h2.len
  have h2H := Lib.hid h2
  clear h3 h4 h2
  go_enter Tryz.func167, Tryz.ntmps167
  go_wp2
  go_loopg [5] n (fun r x wr => ∃ k : Nat, k + r = n ∧ x = .int .i64 (k : Int) ∧ Hid (∀ j, j < k → ∀ e, gs[j]? = some e → e.name ≠ s) ∧ w = wr)
  case atStart => exact ⟨0, by omega, rfl, Lib.hid (fun j hj => by omega), rfl⟩
  case round =>
    obtain ⟨k, hk, rfl, hok, rfl⟩ := hrel
    by_cases hkn : k < n
    · obtain ⟨b, o, rfl, hbl, hc⟩ := h2H.out.ptr (by omega)
      obtain ⟨e, he⟩ := h2H.out.get hkn
      obtain ⟨c0, c1⟩ := hc k e he
      have heH := Lib.hid he
      clear hc he
      by_cases hn : e.name = s
      · have hn'' : (e.name.toList == s.toList) = true := (Lib.bytes_beq_iff _ _).2 hn
        have hr := Lib.hid (glueI_at heH.out hn hok.out)
        clear hn
        go_wp2
        go_ret
        exact ⟨ret_int (by rw [hr.out]; simp), rfl⟩
      · have hn'' : (e.name.toList == s.toList) = false := (Lib.bytes_beq_false_iff _ _).2 hn
        have hnH := Lib.hid hn
        clear hn
        go_wp2
        go_roundg (n - (k + 1))
        case measure => omega
        case rel => exact ⟨k + 1, by omega, by go_num, Lib.hid (fun j hj e' he' => by
            rcases Nat.lt_succ_iff_lt_or_eq.1 hj with hj | rfl
            · exact hok.out j hj e' he'
            · rw [← Option.some.inj (heH.out.symm.trans he')]
              exact hnH.out), rfl⟩
    · obtain rfl : k = n := by omega
      have hr := Lib.hid (glueI_none (gs := gs) (s := s) (fun j hj => hok.out j (by omega)))
      go_wp2
      go_ret
      exact ⟨ret_int (by rw [hr.out]; rfl), rfl⟩
/-- names of glues are all different -/
theorem names_ne {gs : List Gl} {ts : List Ti} (h : validSetB gs ts = true) {i j : Nat} {d e : Gl} (hi : gs[i]? = some d) (hj : gs[j]? = some e) (hn : d.name = e.name) : i = j := by
  have key : ∀ {i j : Nat} {d e : Gl}, gs[i]? = some d → gs[j]? = some e → d.name = e.name → ¬ i < j := fun {i j d e} hi hj hn hij => by
    unfold validSetB at h
    simp only [Bool.and_eq_true] at h
    have := allB_at h.2.1 (lt_of_get hj)
    unfold okGl at this
    rw [hj] at this
    simp only [Bool.and_eq_true] at this
    rw [freshG_false hj hij hi hn] at this
    cases this.2.2
  rcases Nat.lt_trichotomy i j with h1 | h1 | h1
  · exact (key hi hj hn h1).elim
  · exact h1
  · exact (key hj hi hn.symm h1).elim
theorem glueI_iff {gs : List Gl} {ts : List Ti} (h : validSetB gs ts = true) {k : Nat} {g : Gl} (hk : gs[k]? = some g) (s : ByteArray) : glueI gs s = k + 1 ↔ g.name = s := by
  constructor
  · intro he
    classical
    unfold glueI at he
    split at he
    · rename_i j hj
      obtain rfl : j = k := by omega
      rw [List.findIdx?_eq_some_iff_getElem] at hj
      obtain ⟨hl, h1, _⟩ := hj
      obtain ⟨_, rfl⟩ := List.getElem?_eq_some_iff.1 hk
      simpa using h1
    · omega
  · intro he
    exact glueI_at hk he (fun j hj e hej hn => by
      have := names_ne h hej hk (hn.trans he.symm)
      omega)
end Go.Proofs.YtglcpphfmmnmkaaGreat
/- Walks: the name at a tile's side; what carries. -/

namespace Go.Proofs.YtglcpphfmmnmkaaGreat
open Go.RowKit Go.Shelf
attribute [local go_sem] BelowBy.cell BelowBy.cell_drew stillUpon givesUpon BelowBy.cell_drew2 BelowBy.cell_drew3

def sideV (ts : List Ti) (t d : Nat) : Int := match ts[t]? with
  | some e => (e.sides[d]?).getD 0
  | none => 0
def nameI (gs : List Gl) (v : Int) : ByteArray := if v = 0 then ByteArray.empty else match gs[v.toNat - 1]? with
  | some g => g.name
  | none => ByteArray.empty
/-- the name of the glue at a side of the tile at a point -/
noncomputable def gluedS (gs : List Gl) (ts : List Ti) (ys : List Pl) (x y : Int) (d : Nat) : ByteArray := if atI ys x y < 0 then ByteArray.empty else nameI gs (sideV ts (atI ys x y).toNat d)
def c1S : ByteArray := { data := #[99, 49] }
theorem c1_list : c1S.toList = [99, 49] := by first | rfl | decide | (unfold c1S; go_simp) | simp [c1S]
theorem c1_ne : ByteArray.empty ≠ c1S := by
  intro h
  have := congrArg ByteArray.size h
  simp [c1S, ByteArray.size] at this
theorem gluedS_none {gs : List Gl} {ts : List Ti} {ys : List Pl} {x y : Int} {d : Nat} (h : atI ys x y = -1) : gluedS gs ts ys x y d = ByteArray.empty := by unfold gluedS; rw [h, if_pos (by decide)]
theorem gluedS_some {gs : List Gl} {ts : List Ti} {ys : List Pl} {x y v : Int} {t d : Nat} {e : Ti} (h : atI ys x y = (t : Int)) (he : ts[t]? = some e) (hv : e.sides[d]? = some v) : gluedS gs ts ys x y d = nameI gs v := by
  unfold gluedS sideV
  rw [h, if_neg (by omega)]
  have : ((t : Nat) : Int).toNat = t := by omega
  rw [this, he]
  simp only [hv, Option.getD_some]
theorem nameI_zero (gs : List Gl) : nameI gs 0 = ByteArray.empty := by unfold nameI; rw [if_pos rfl]
theorem nameI_succ {gs : List Gl} {k : Nat} {g : Gl} {v : Int} (hv : v = (k : Int) + 1) (hk : gs[k]? = some g) : nameI gs v = g.name := by
  unfold nameI
  rw [if_neg (by omega), show v.toNat - 1 = k by omega, hk]
theorem glued_iff {gs : List Gl} {ts : List Ti} {ys : List Pl} {x y v : Int} {t d : Nat} {e : Ti} (hset : validSetB gs ts = true) (hV : Valid gs ts ys) (h : atI ys x y = (t : Int)) (he : ts[t]? = some e) (hv : e.sides[d]? = some v) :
    gluedS gs ts ys x y d = c1S ↔ 0 < glueI gs c1S ∧ v = (glueI gs c1S : Int) := by
  rw [gluedS_some h he hv]
  obtain ⟨g, rfl, hg⟩ := hV.side t e d v he hv
  cases g with
  | zero =>
    rw [show ((0 : Nat) : Int) = 0 from rfl, nameI_zero]
    exact ⟨fun h => (c1_ne h).elim, fun h => by omega⟩
  | succ k =>
    have hk := List.getElem?_eq_getElem (l := gs) (i := k) (by omega)
    rw [nameI_succ (by omega) hk, ← glueI_iff hset hk]
    omega
set_option maxRecDepth 100000 in
set_option maxHeartbeats 2000000 in
theorem gluedName_any {G T C : Option Addr} {n cg m ct k cc : Nat} {gs : List Gl} {ts : List Ti} {ys : List Pl} {x y di : Int} (d : Nat) {s : ByteArray} {w : World} (h0 : di = d) (h : SA w G n T m C k gs ts ys) (hV : Valid gs ts ys) (hd : d < 4) (hs : gluedS gs ts ys x y d = s) :
    Calls Tryz.prog 185 #[.agg #[.slice G n cg, .slice T m ct], .agg #[.slice C k cc], .agg #[.int .i64 x, .int .i64 y], .int .i64 di] w fun e w' => e = .returned (.string s) ∧ Below w.heap.size w w' := by
  
  have hS := Lib.hid h
  have hsH := Lib.hid hs
  have hln := h.G.len
  have hlm := h.T.len
  subst h0
  clear h hs
  rcases atI_cases hV x y with ⟨h1, hat⟩ | ⟨kk, t, e, h1, he, ht, htl, hat⟩
  · have hatH := Lib.hid hat
    have hr := Lib.hid (show ByteArray.empty = s by rw [← hsH.out, gluedS_none hat])
    clear h1 hat
    go_enter Tryz.func185, Tryz.ntmps185
    go_wp2_with (go_at_call 58; refine (at_at (hS.out.A.below RPl.stable (by repeat (first | with_reducible (first | exact bl_refl _ | assumption | refine bl_al ?_ _ | refine bl_dr ?_ | refine bl_tr ?_ (by assumption) | refine bl_set ?_ ?_ _ | exact Nat.le_refl _) | omega | (simp only [World.size_alloc, World.size_setCell, World.size_drew] at *; omega) | (dsimp only; omega) | (simp; done) | (simp; omega)))) hV hatH.out).mono ?_; rintro e w1 ⟨rfl, hb1⟩; obtain ⟨chb1, fhb1, shb1, thb1⟩ := bcell hb1; (have b0 := shb1 w.heap.size (by go_simp)); (have b1 := shb1 (w.heap.size + 1) (by go_simp)))
    go_ret
    exact ⟨by rw [← hr.out]; rfl, by repeat (first | with_reducible (first | exact bl_refl _ | assumption | refine bl_al ?_ _ | refine bl_dr ?_ | refine bl_tr ?_ (by assumption) | refine bl_set ?_ ?_ _ | exact Nat.le_refl _) | omega | (simp only [World.size_alloc, World.size_setCell, World.size_drew] at *; omega) | (dsimp only; omega) | (simp; done) | (simp; omega))⟩
  · have hatH := Lib.hid hat
    clear h1 hat he ht e
    have htm : t < m := by omega
    go_enter Tryz.func185, Tryz.ntmps185
    go_wp2_with fail
    refine (at_at (hS.out.A.below RPl.stable (by repeat (first | with_reducible (first | exact bl_refl _ | assumption | refine bl_al ?_ _ | refine bl_dr ?_ | refine bl_tr ?_ (by assumption) | refine bl_set ?_ ?_ _ | exact Nat.le_refl _) | omega | (simp only [World.size_alloc, World.size_setCell, World.size_drew] at *; omega) | (dsimp only; omega) | (simp; done) | (simp; omega)))) hV hatH.out).mono ?_
    rintro e1 w1 ⟨rfl, hb1⟩
    have hB1 : Below w.heap.size w w1 := by repeat (first | with_reducible (first | exact bl_refl _ | assumption | refine bl_al ?_ _ | refine bl_dr ?_ | refine bl_tr ?_ (by assumption) | refine bl_set ?_ ?_ _ | exact Nat.le_refl _) | omega | (simp only [World.size_alloc, World.size_setCell, World.size_drew] at *; omega) | (dsimp only; omega) | (simp; done) | (simp; omega))
    have hB1H := Lib.hid hB1
    obtain ⟨chb1, fhb1, shb1, thb1⟩ := bcell hb1
    have b0 := shb1 w.heap.size (by go_simp)
    have hG0 := hS.out.G.below RGl.stable hB1
    have hT0 := hS.out.T.below RTi.stable hB1
    obtain ⟨e, he⟩ := hT0.get htm
    have hfour := hV.four t e he
    obtain ⟨v, hv⟩ : ∃ v, e.sides[d]? = some v := ⟨_, List.getElem?_eq_getElem (by omega)⟩
    obtain ⟨g, hvg, hgl⟩ := hV.side t e d v he hv
    obtain ⟨bt, ot, hTe, hbt, hct⟩ := hT0.ptr (by omega)
    subst hTe
    obtain ⟨c0, As, ns, cs, c1, hsd⟩ := hct t e he
    have hns := hsd.len
    obtain ⟨bs, os, rfl, hbs, hcs⟩ := hsd.ptr (by omega)
    have c2 := hcs d v hv
    unfold RInt at c2
    simp only [Nat.mul_one] at c2
    have hdn : d < ns := by omega
    have hd0 : (0 : Int) ≤ (d : Int) := by omega
    have ht0 : (0 : Int) ≤ (t : Int) := by omega
    have hgs := Lib.hid (gluedS_some (gs := gs) hatH.out he hv)
    clear hct hcs hsd hT0 he hv hfour hns hb1 hB1
    cases g with
    | zero =>
      obtain rfl : v = 0 := by omega
      have hr := Lib.hid (show ByteArray.empty = s by rw [← hsH.out, hgs.out, nameI_zero])
      clear hvg hG0
      go_wp2
      go_ret
      exact ⟨by rw [← hr.out]; rfl, hB1H.out⟩
    | succ g' =>
      have hgn : g' < n := by omega
      obtain ⟨eg, heg⟩ := hG0.get hgn
      obtain ⟨bg, og, hGe, hbg, hcg⟩ := hG0.ptr (by omega)
      subst hGe
      obtain ⟨d0, d1⟩ := hcg g' eg heg
      have hr := Lib.hid (show eg.name = s by rw [← hsH.out, hgs.out, nameI_succ (by omega) heg])
      have hv1 : v - 1 = (g' : Int) := by omega
      have hvw : IntKind.i64.wrap ((g' : Nat) : Int) = (g' : Int) := wrap_in (by omega) (by have := hV.gl; omega)
      have hv0 : (v == 0) = false := by simp; omega
      clear hvg hcg heg hG0
      go_wp2
      refine wp_region_ord [(0, .q), (1, .q), (2, .q), (3, .q), (4, .q), (5, .q), (6, .q), (7, .q), (8, .q), (9, .q), (10, .q), (11, .q), (12, .q), (13, .q), (14, .q), (15, .q)] (by kernel_rfl) (by kernel_rfl) ?_
      simp only [pick, List.filterMap_cons, List.filterMap_nil, List.getElem?_toArray, List.getElem?_cons_zero, List.getElem?_cons_succ, Option.map_some]
      repeat (first | ((with_reducible refine wpD_p (fun K hK => ?_)); go_simp; refine hK _ ?_; clear hK K) | ((with_reducible refine wpD_q (fun K hK => ?_)); go_simp; (first | refine hK _ ?_ | (go_bits; refine hK _ ?_) | (go_bits; go_simp; refine hK _ ?_)); clear hK K))
      with_reducible refine wpD_nil ?_
      go_wp2
      go_ret
      exact ⟨by rw [← hr.out]; rfl, hB1H.out.drew⟩
open Classical in
/-- how many of the first k places carry -/
noncomputable def carK (gs : List Gl) (ts : List Ti) (ys : List Pl) (row : Int) : Nat → Nat
  | 0 => 0
  | k + 1 => carK gs ts ys row k + if gluedS gs ts ys (k : Int) row 3 = c1S then 1 else 0
theorem carK_yes {gs : List Gl} {ts : List Ti} {ys : List Pl} {row : Int} {k : Nat} (h : gluedS gs ts ys (k : Int) row 3 = c1S) : carK gs ts ys row (k + 1) = carK gs ts ys row k + 1 := by simp only [carK]; rw [if_pos h]
theorem carK_no {gs : List Gl} {ts : List Ti} {ys : List Pl} {row : Int} {k : Nat} (h : ¬ gluedS gs ts ys (k : Int) row 3 = c1S) : carK gs ts ys row (k + 1) = carK gs ts ys row k := by simp only [carK]; rw [if_neg h]; rfl
theorem carK_le (gs : List Gl) (ts : List Ti) (ys : List Pl) (row : Int) : ∀ k, carK gs ts ys row k ≤ k
  | 0 => Nat.le_refl _
  | k + 1 => by
    have := carK_le gs ts ys row k
    simp only [carK]
    split <;> omega
noncomputable def carR (gs : List Gl) (ts : List Ti) (xs : List Pl) (t : Int) (ys : List Pl) (row digits : Int) : Int × Int := if growB gs ts xs t ys = false then (0, 1) else if (inB digits 1 8 && inB row 0 60) = false then (0, 2) else ((carK gs ts ys row digits.toNat : Int), 0)
section
variable {gs : List Gl} {ts : List Ti} {xs ys : List Pl} {t row digits : Int}
theorem carR_no (h : growB gs ts xs t ys = false) : ((0, 1) : Int × Int) = carR gs ts xs t ys row digits := by unfold carR; rw [if_pos h]
theorem carR_range (h : growB gs ts xs t ys = true) (h2 : (inB digits 1 8 && inB row 0 60) = false) : ((0, 2) : Int × Int) = carR gs ts xs t ys row digits := by unfold carR; rw [if_neg (by rw [h]; decide), if_pos h2]
theorem carR_yes {D : Nat} (h : growB gs ts xs t ys = true) (h1 : inB (D : Int) 1 8 = true) (h2 : inB row 0 60 = true) : (((carK gs ts ys row D : Int), 0) : Int × Int) = carR gs ts xs t ys row (D : Int) := by
  unfold carR; rw [if_neg (by rw [h]; decide), if_neg (by rw [h1, h2]; decide)]; simp
end
theorem inB_nat {x lo hi : Int} (h : inB x lo hi = true) (h0 : 0 ≤ lo) : ∃ k : Nat, x = k ∧ lo ≤ (k : Int) ∧ (k : Int) ≤ hi := by
  have := inB_true.1 h
  exact ⟨x.toNat, by omega, by omega, by omega⟩
end Go.Proofs.YtglcpphfmmnmkaaGreat
/- Walk: a digit's value; a tile's name. -/

namespace Go.Proofs.YtglcpphfmmnmkaaGreat
open Go.RowKit Go.Shelf
attribute [local go_sem] BelowBy.cell BelowBy.cell_drew stillUpon givesUpon BelowBy.cell_drew2 BelowBy.cell_drew3

def digitV (c : Int) : Int := if digitI c = true then c - 48 else -1
theorem digitV_yes {c : Int} (h : digitI c = true) : digitV c = c - 48 ∧ 0 ≤ digitV c := by
  have h2 := (digitI_iff c).1 h
  unfold digitV
  rw [if_pos h]
  exact ⟨rfl, by omega⟩
theorem digitV_no {c : Int} (h : digitI c = false) : digitV c = -1 ∧ ¬ 0 ≤ digitV c := by
  unfold digitV
  rw [if_neg (by rw [h]; decide)]
  exact ⟨rfl, by omega⟩
theorem ba1_0 (b : UInt8) (h : 0 < ({ data := #[b] } : ByteArray).size) : ({ data := #[b] } : ByteArray)[0]'h = b := rfl
attribute [local go_sem] ba1_0
set_option maxHeartbeats 1000000 in
theorem digit_any (b : UInt8) (w : World) :
    Calls Tryz.prog 197 #[.string { data := #[b] }] w fun e w' => e = .returned (.int .i64 (digitV (b.toNat : Int))) ∧ w = w' := by
  have hsz : ({ data := #[b] } : ByteArray).size = 1 := rfl
  have hb : b.toNat < 256 := b.toNat_lt
  cases hd : digitI (b.toNat : Int)
  · have hv := Lib.hid (digitV_no hd).1
    have hr : ¬ (48 ≤ (b.toNat : Int) ∧ (b.toNat : Int) ≤ 57) := fun h => by rw [(digitI_iff _).2 h] at hd; cases hd
    by_cases h1 : (b.toNat : Int) < 48
    · go_enter Tryz.func197, Tryz.ntmps197
      go_wp2
      go_ret
      exact ⟨ret_int hv.out.symm, rfl⟩
    · have h2 : (57 : Int) < (b.toNat : Int) := by omega
      go_enter Tryz.func197, Tryz.ntmps197
      go_wp2
      go_ret
      exact ⟨ret_int hv.out.symm, rfl⟩
  · have hv := Lib.hid (digitV_yes hd).1
    have hr := (digitI_iff _).1 hd
    have h1 : ¬ (b.toNat : Int) < 48 := by omega
    have h2 : ¬ (57 : Int) < (b.toNat : Int) := by omega
    have h3 : IntKind.u8.wrap ((b.toNat : Int) - 48) = (b.toNat : Int) - 48 := by
      simp [IntKind.wrap, IntKind.bits, IntKind.signed]; omega
    have h4 : IntKind.i64.wrap ((b.toNat : Int) - 48) = (b.toNat : Int) - 48 := wrap_in (by omega) (by omega)
    go_enter Tryz.func197, Tryz.ntmps197
    go_wp2
    go_ret
    exact ⟨ret_int (by rw [hv.out]), rfl⟩
def nameT_ (ts : List Ti) (t : Nat) : ByteArray := match ts[t]? with
  | some e => e.name
  | none => ByteArray.empty
end Go.Proofs.YtglcpphfmmnmkaaGreat
/- Walks: with what strength a tile binds at a point, by the program and by the reference. -/

namespace Go.Proofs.YtglcpphfmmnmkaaGreat
open Go.RowKit Go.Shelf
attribute [local go_sem] BelowBy.cell BelowBy.cell_drew stillUpon givesUpon BelowBy.cell_drew2 BelowBy.cell_drew3

theorem bindN_succ_none {gs : List Gl} {ts : List Ti} {xs : List Pl} {x y S : Int} {t k : Nat} (hS : bindN gs ts xs x y t k = S) (h : atI xs (stepX x k) (stepY y k) = -1) : bindN gs ts xs x y t (k + 1) = S := by
  simp only [bindN]; rw [hS, h, if_neg (by decide)]; omega
theorem bindN_succ_some {gs : List Gl} {ts : List Ti} {xs : List Pl} {x y S r : Int} {t k t2 : Nat} (hS : bindN gs ts xs x y t k = S) (h : atI xs (stepX x k) (stepY y k) = t2) (hr : bondI gs ts t k t2 = r) : bindN gs ts xs x y t (k + 1) = S + r := by
  simp only [bindN]; rw [hS, h, if_pos (by omega)]
  have : ((t2 : Nat) : Int).toNat = t2 := by omega
  rw [this, hr]
set_option maxRecDepth 100000 in
set_option maxHeartbeats 2000000 in
theorem binding_any (G T A : Option Addr) (n cg m ct q ca : Nat) (gs : List Gl) (ts : List Ti) (xs : List Pl) (x y : Int) (t : Nat) (w : World) (hG : RdSl 2 RGl w G n gs) (hT : RdSl 2 RTi w T m ts) (hA : RdSl 3 RPl w A q xs) (hV : Valid gs ts xs) (ht : t < ts.length) (hx : -900 ≤ x ∧ x ≤ 900) (hy : -900 ≤ y ∧ y ≤ 900) :
    Calls Tryz.prog 121 #[.agg #[.slice G n cg, .slice T m ct], .agg #[.int .i64 x, .int .i64 y], .int .i64 (t : Int), .func (.func 58) #[.agg #[.slice A q ca]] #[]] w fun e w' => e = .returned (.int .i64 (bindN gs ts xs x y t 4)) ∧ Below w.heap.size w w' := by
  
  go_enter Tryz.func121, Tryz.ntmps121
  go_wp2
  go_loopg [12, 9] 4 (fun r c s wr => ∃ k : Nat, k + r = 4 ∧ c = .int .i64 (k : Int) ∧ s = .int .i64 (bindN gs ts xs x y t k) ∧ Below w.heap.size w wr ∧ wr.cell? ⟨w.heap.size, 0, none⟩ = some (.slice G n cg) ∧ wr.cell? ⟨w.heap.size, 1, none⟩ = some (.slice T m ct) ∧ wr.cell? ⟨w.heap.size + 1, 0, none⟩ = some (.int .i64 x) ∧ wr.cell? ⟨w.heap.size + 1, 1, none⟩ = some (.int .i64 y) ∧ w.heap.size + 1 < wr.heap.size)
  case atStart => exact ⟨0, by omega, rfl, rfl, by repeat (first | with_reducible (first | exact bl_refl _ | assumption | refine bl_al ?_ _ | refine bl_dr ?_ | refine bl_tr ?_ (by assumption) | refine bl_set ?_ ?_ _ | exact Nat.le_refl _) | omega | (simp only [World.size_alloc, World.size_setCell, World.size_drew] at *; omega) | (dsimp only; omega) | (simp; done) | (simp; omega)), by go_simp, by go_simp, by go_simp, by go_simp, by simp⟩
  case round =>
    obtain ⟨k, hk, rfl, rfl, hbw, y0, y1, y2, y3, hsz⟩ := hrel
    have hbd := bindN_bound hV x y t k
    have hsz0 : w.heap.size < wr.heap.size := by omega
    by_cases hlt : k < 4
    · have hltI : (k : Int) < 4 := by omega
      have hk0 : (0 : Int) ≤ (k : Int) := by omega
      obtain ⟨S, hS⟩ : ∃ S, bindN gs ts xs x y t k = S := ⟨_, rfl⟩
      rw [hS] at hbd
      rw [hS]
      have hSH := Lib.hid hS
      clear hS
      have hb0 : 0 ≤ S := hbd.1
      have hb1' : S ≤ 1000 := by have := hbd.2; omega
      clear hbd
      rcases atI_cases hV (stepX x k) (stepY y k) with ⟨_, hat⟩ | ⟨i, t2, e, _, _, _, ht2, hat⟩
      · have hatH := Lib.hid hat
        have hnx := Lib.hid (bindN_succ_none hSH.out hat)
        clear hat
        go_wp2_with (first
          | (go_at_call 156; refine (step_at k rfl hlt ⟨by omega, by omega⟩ ⟨by omega, by omega⟩ rfl rfl).mono ?_; rintro e w1 ⟨rfl, hb1⟩; obtain ⟨chb1, fhb1, shb1, thb1⟩ := bcell hb1; (try have bhb10 := shb1 (w.heap.size) (by go_simp)); (try have bhb11 := shb1 (w.heap.size + 1) (by go_simp)))
          | (go_at_call 58; refine (at_at (hA.below RPl.stable (by repeat (first | with_reducible (first | exact bl_refl _ | assumption | refine bl_al ?_ _ | refine bl_dr ?_ | refine bl_tr ?_ (by assumption) | refine bl_set ?_ ?_ _ | exact Nat.le_refl _) | omega | (simp only [World.size_alloc, World.size_setCell, World.size_drew] at *; omega) | (dsimp only; omega) | (simp; done) | (simp; omega)))) hV hatH.out).mono ?_; rintro e w2 ⟨rfl, hb2⟩; obtain ⟨chb2, fhb2, shb2, thb2⟩ := bcell hb2; (try have bhb20 := shb2 (w.heap.size) (by go_simp)); (try have bhb21 := shb2 (w.heap.size + 1) (by go_simp))))
        go_roundg (4 - (k + 1))
        case measure => omega
        case rel => exact ⟨k + 1, by omega, by go_num, by rw [hnx.out], by repeat (first | with_reducible (first | exact bl_refl _ | assumption | refine bl_al ?_ _ | refine bl_dr ?_ | refine bl_tr ?_ (by assumption) | refine bl_set ?_ ?_ _ | exact Nat.le_refl _) | omega | (simp only [World.size_alloc, World.size_setCell, World.size_drew] at *; omega) | (dsimp only; omega) | (simp; done) | (simp; omega)), by go_simp, by go_simp, by go_simp, by go_simp, by go_simp⟩
      · obtain ⟨r, hr⟩ : ∃ r, bondI gs ts t k t2 = r := ⟨_, rfl⟩
        have hatH := Lib.hid hat
        have hrH := Lib.hid hr
        have hnx := Lib.hid (bindN_succ_some hSH.out hat hr)
        have hr0 : 0 ≤ r := by rw [← hr]; exact bondI_nonneg hV _ _ _
        have hr4 : r ≤ 4 := by rw [← hr]; exact bondI_le hV _ _ _
        have ht20 : (0 : Int) ≤ (t2 : Int) := by omega
        clear hat hr
        go_wp2_with (first
          | (go_at_call 156; refine (step_at k rfl hlt ⟨by omega, by omega⟩ ⟨by omega, by omega⟩ rfl rfl).mono ?_; rintro e w1 ⟨rfl, hb1⟩; obtain ⟨chb1, fhb1, shb1, thb1⟩ := bcell hb1; (try have bhb10 := shb1 (w.heap.size) (by go_simp)); (try have bhb11 := shb1 (w.heap.size + 1) (by go_simp)))
          | (go_at_call 58; refine (at_at (hA.below RPl.stable (by repeat (first | with_reducible (first | exact bl_refl _ | assumption | refine bl_al ?_ _ | refine bl_dr ?_ | refine bl_tr ?_ (by assumption) | refine bl_set ?_ ?_ _ | exact Nat.le_refl _) | omega | (simp only [World.size_alloc, World.size_setCell, World.size_drew] at *; omega) | (dsimp only; omega) | (simp; done) | (simp; omega)))) hV hatH.out).mono ?_; rintro e w2 ⟨rfl, hb2⟩; obtain ⟨chb2, fhb2, shb2, thb2⟩ := bcell hb2; (try have bhb20 := shb2 (w.heap.size) (by go_simp)); (try have bhb21 := shb2 (w.heap.size + 1) (by go_simp)))
          | (go_at_call 117; refine (bond_at t k t2 rfl rfl rfl (hG.below RGl.stable (by repeat (first | with_reducible (first | exact bl_refl _ | assumption | refine bl_al ?_ _ | refine bl_dr ?_ | refine bl_tr ?_ (by assumption) | refine bl_set ?_ ?_ _ | exact Nat.le_refl _) | omega | (simp only [World.size_alloc, World.size_setCell, World.size_drew] at *; omega) | (dsimp only; omega) | (simp; done) | (simp; omega)))) (hT.below RTi.stable (by repeat (first | with_reducible (first | exact bl_refl _ | assumption | refine bl_al ?_ _ | refine bl_dr ?_ | refine bl_tr ?_ (by assumption) | refine bl_set ?_ ?_ _ | exact Nat.le_refl _) | omega | (simp only [World.size_alloc, World.size_setCell, World.size_drew] at *; omega) | (dsimp only; omega) | (simp; done) | (simp; omega)))) hV ht ht2 hlt hrH.out).mono ?_; rintro e w3 ⟨rfl, hb3⟩; obtain ⟨chb3, fhb3, shb3, thb3⟩ := bcell hb3; (try have bhb30 := shb3 (w.heap.size) (by go_simp)); (try have bhb31 := shb3 (w.heap.size + 1) (by go_simp))))
        go_roundg (4 - (k + 1))
        case measure => omega
        case rel => exact ⟨k + 1, by omega, by go_num, by rw [hnx.out], by repeat (first | with_reducible (first | exact bl_refl _ | assumption | refine bl_al ?_ _ | refine bl_dr ?_ | refine bl_tr ?_ (by assumption) | refine bl_set ?_ ?_ _ | exact Nat.le_refl _) | omega | (simp only [World.size_alloc, World.size_setCell, World.size_drew] at *; omega) | (dsimp only; omega) | (simp; done) | (simp; omega)), by go_simp, by go_simp, by go_simp, by go_simp, by go_simp⟩
    · obtain rfl : k = 4 := by omega
      go_wp2
      go_ret
      exact ⟨rfl, hbw⟩
theorem binding_at {G T A : Option Addr} {n cg m ct q ca : Nat} {gs : List Gl} {ts : List Ti} {xs : List Pl} {x y ti r : Int} (t : Nat) {w : World} (h0 : ti = t) (hG : RdSl 2 RGl w G n gs) (hT : RdSl 2 RTi w T m ts) (hA : RdSl 3 RPl w A q xs) (hV : Valid gs ts xs) (ht : t < ts.length) (hx : -900 ≤ x ∧ x ≤ 900) (hy : -900 ≤ y ∧ y ≤ 900) (hr : bindN gs ts xs x y t 4 = r) :
    Calls Tryz.prog 121 #[.agg #[.slice G n cg, .slice T m ct], .agg #[.int .i64 x, .int .i64 y], .int .i64 ti, .func (.func 58) #[.agg #[.slice A q ca]] #[]] w fun e w' => e = .returned (.int .i64 r) ∧ Below w.heap.size w w' := by
  subst h0 hr; exact binding_any G T A n cg m ct q ca gs ts xs x y t w hG hT hA hV ht hx hy
set_option maxRecDepth 100000 in
set_option maxHeartbeats 2000000 in
theorem l06Binding_any (p pa : Nat) (gs : List Gl) (ts : List Ti) (xs : List Pl) (x y : Int) (t : Nat) (w : World) (hs : SetAt w p 0 gs ts) (ha : AsmAt w pa 0 xs) (hV : Valid gs ts xs) (ht : t < ts.length) (hx : -900 ≤ x ∧ x ≤ 900) (hy : -900 ≤ y ∧ y ≤ 900) :
    Calls Tryz.prog 103 #[.pointer (some ⟨p, 0, none⟩), .pointer (some ⟨pa, 0, none⟩), .agg #[.int .i64 x, .int .i64 y], .int .i64 (t : Int)] w fun e w' => e = .returned (.int .i64 (bindN gs ts xs x y t 4)) ∧ Below w.heap.size w w' := by
  
  go_enter Tryz.func103, Tryz.ntmps103
  go_wp2
  go_loopg [10, 9] 4 (fun r c s wr => ∃ k : Nat, k + r = 4 ∧ c = .int .i64 (k : Int) ∧ s = .int .i64 (bindN gs ts xs x y t k) ∧ Below w.heap.size w wr ∧ wr.cell? ⟨w.heap.size, 0, none⟩ = some (.int .i64 x) ∧ wr.cell? ⟨w.heap.size, 1, none⟩ = some (.int .i64 y) ∧ w.heap.size < wr.heap.size)
  case atStart => exact ⟨0, by omega, rfl, rfl, by repeat (first | with_reducible (first | exact bl_refl _ | assumption | refine bl_al ?_ _ | refine bl_dr ?_ | refine bl_tr ?_ (by assumption) | refine bl_set ?_ ?_ _ | exact Nat.le_refl _) | omega | (simp only [World.size_alloc, World.size_setCell, World.size_drew] at *; omega) | (dsimp only; omega) | (simp; done) | (simp; omega)), by go_simp, by go_simp, by simp⟩
  case round =>
    obtain ⟨k, hk, rfl, rfl, hbw, y2, y3, hsz⟩ := hrel
    have hbd := bindN_bound hV x y t k
    by_cases hlt : k < 4
    · have hltI : (k : Int) < 4 := by omega
      have hk0 : (0 : Int) ≤ (k : Int) := by omega
      obtain ⟨S, hS⟩ : ∃ S, bindN gs ts xs x y t k = S := ⟨_, rfl⟩
      rw [hS] at hbd
      rw [hS]
      have hSH := Lib.hid hS
      clear hS
      have hb0 : 0 ≤ S := hbd.1
      have hb1' : S ≤ 1000 := by have := hbd.2; omega
      clear hbd
      rcases atI_cases hV (stepX x k) (stepY y k) with ⟨_, hat⟩ | ⟨i, t2, e, _, _, _, ht2, hat⟩
      · have hatH := Lib.hid hat
        have hnx := Lib.hid (bindN_succ_none hSH.out hat)
        clear hat
        go_wp2_with (first
          | (go_at_call 144; refine (l01Step_any _ _ _ _ ⟨by omega, by omega⟩ ⟨by omega, by omega⟩ ⟨by omega, by omega⟩).mono ?_; rintro e w1 ⟨rfl, hb1⟩; obtain ⟨chb1, fhb1, shb1, thb1⟩ := bcell hb1; (try have bhb10 := shb1 (w.heap.size) (by go_simp)))
          | (go_at_call 102; refine (l03At_any _ gs ts xs _ _ _ _ (ha.below (by repeat (first | with_reducible (first | exact bl_refl _ | assumption | refine bl_al ?_ _ | refine bl_dr ?_ | refine bl_tr ?_ (by assumption) | refine bl_set ?_ ?_ _ | exact Nat.le_refl _) | omega | (simp only [World.size_alloc, World.size_setCell, World.size_drew] at *; omega) | (dsimp only; omega) | (simp; done) | (simp; omega)))) hV hatH.out).mono ?_; rintro e w2 ⟨rfl, hb2⟩; obtain ⟨chb2, fhb2, shb2, thb2⟩ := bcell hb2; (try have bhb20 := shb2 (w.heap.size) (by go_simp))))
        go_roundg (4 - (k + 1))
        case measure => omega
        case rel => exact ⟨k + 1, by omega, by go_num, by rw [hnx.out], by repeat (first | with_reducible (first | exact bl_refl _ | assumption | refine bl_al ?_ _ | refine bl_dr ?_ | refine bl_tr ?_ (by assumption) | refine bl_set ?_ ?_ _ | exact Nat.le_refl _) | omega | (simp only [World.size_alloc, World.size_setCell, World.size_drew] at *; omega) | (dsimp only; omega) | (simp; done) | (simp; omega)), by go_simp, by go_simp, by go_simp⟩
      · obtain ⟨r, hr⟩ : ∃ r, bondI gs ts t k t2 = r := ⟨_, rfl⟩
        have hatH := Lib.hid hat
        have hrH := Lib.hid hr
        have hnx := Lib.hid (bindN_succ_some hSH.out hat hr)
        have hr0 : 0 ≤ r := by rw [← hr]; exact bondI_nonneg hV _ _ _
        have hr4 : r ≤ 4 := by rw [← hr]; exact bondI_le hV _ _ _
        have ht20 : (0 : Int) ≤ (t2 : Int) := by omega
        clear hat hr
        go_wp2_with (first
          | (go_at_call 144; refine (l01Step_any _ _ _ _ ⟨by omega, by omega⟩ ⟨by omega, by omega⟩ ⟨by omega, by omega⟩).mono ?_; rintro e w1 ⟨rfl, hb1⟩; obtain ⟨chb1, fhb1, shb1, thb1⟩ := bcell hb1; (try have bhb10 := shb1 (w.heap.size) (by go_simp)))
          | (go_at_call 102; refine (l03At_any _ gs ts xs _ _ _ _ (ha.below (by repeat (first | with_reducible (first | exact bl_refl _ | assumption | refine bl_al ?_ _ | refine bl_dr ?_ | refine bl_tr ?_ (by assumption) | refine bl_set ?_ ?_ _ | exact Nat.le_refl _) | omega | (simp only [World.size_alloc, World.size_setCell, World.size_drew] at *; omega) | (dsimp only; omega) | (simp; done) | (simp; omega)))) hV hatH.out).mono ?_; rintro e w2 ⟨rfl, hb2⟩; obtain ⟨chb2, fhb2, shb2, thb2⟩ := bcell hb2; (try have bhb20 := shb2 (w.heap.size) (by go_simp)))
          | (go_at_call 145; refine (l02Bond_at t t2 rfl rfl (hs.below (by repeat (first | with_reducible (first | exact bl_refl _ | assumption | refine bl_al ?_ _ | refine bl_dr ?_ | refine bl_tr ?_ (by assumption) | refine bl_set ?_ ?_ _ | exact Nat.le_refl _) | omega | (simp only [World.size_alloc, World.size_setCell, World.size_drew] at *; omega) | (dsimp only; omega) | (simp; done) | (simp; omega)))) hV ht ht2 hlt hrH.out).mono ?_; rintro e w3 ⟨rfl, hb3⟩; obtain ⟨chb3, fhb3, shb3, thb3⟩ := bcell hb3; (try have bhb30 := shb3 (w.heap.size) (by go_simp))))
        go_roundg (4 - (k + 1))
        case measure => omega
        case rel => exact ⟨k + 1, by omega, by go_num, by rw [hnx.out], by repeat (first | with_reducible (first | exact bl_refl _ | assumption | refine bl_al ?_ _ | refine bl_dr ?_ | refine bl_tr ?_ (by assumption) | refine bl_set ?_ ?_ _ | exact Nat.le_refl _) | omega | (simp only [World.size_alloc, World.size_setCell, World.size_drew] at *; omega) | (dsimp only; omega) | (simp; done) | (simp; omega)), by go_simp, by go_simp, by go_simp⟩
    · obtain rfl : k = 4 := by omega
      go_wp2
      go_ret
      exact ⟨rfl, hbw⟩
theorem l06Binding_at {p pa : Nat} {gs : List Gl} {ts : List Ti} {xs : List Pl} {x y ti r : Int} (t : Nat) {w : World} (h0 : ti = t) (hs : SetAt w p 0 gs ts) (ha : AsmAt w pa 0 xs) (hV : Valid gs ts xs) (ht : t < ts.length) (hx : -900 ≤ x ∧ x ≤ 900) (hy : -900 ≤ y ∧ y ≤ 900) (hr : bindN gs ts xs x y t 4 = r) :
    Calls Tryz.prog 103 #[.pointer (some ⟨p, 0, none⟩), .pointer (some ⟨pa, 0, none⟩), .agg #[.int .i64 x, .int .i64 y], .int .i64 ti] w fun e w' => e = .returned (.int .i64 r) ∧ Below w.heap.size w w' := by
  subst h0 hr; exact l06Binding_any p pa gs ts xs x y t w hs ha hV ht hx hy
end Go.Proofs.YtglcpphfmmnmkaaGreat
/- Walks: BindingsOf, the program's and the reference's. -/



namespace Go.Proofs.YtglcpphfmmnmkaaGreat
open Go.RowKit Go.Shelf
attribute [local go_sem] BelowBy.cell BelowBy.cell_drew stillUpon givesUpon BelowBy.cell_drew2 BelowBy.cell_drew3

theorem cell_one_new (w : World) (a : Value) (t : TypeId) : ∀ j u, [a][j]? = some u → (w.alloc (.cells #[a] t)).cell? ((⟨w.heap.size, 0, none⟩ : Addr).add j) = some u := by
  intro j u hj
  match j, hj with
  | 0, hj => simp at hj; subst hj; simp [Addr.add]
  | j + 1, hj => simp at hj
noncomputable def bindOf (gs : List Gl) (ts : List Ti) (xs : List Pl) (e : Pl) : Int := bindN gs ts xs e.x e.y e.t.toNat 4
noncomputable def bindsL (gs : List Gl) (ts : List Ti) (xs : List Pl) (k : Nat) : List Int := (xs.take k).map (bindOf gs ts xs)
theorem bindsL_succ {gs : List Gl} {ts : List Ti} {xs : List Pl} {k : Nat} {e : Pl} (he : xs[k]? = some e) : bindsL gs ts xs (k + 1) = bindsL gs ts xs k ++ [bindOf gs ts xs e] := by
  have hk := lt_of_get he
  have h2 : xs[k] = e := (List.getElem?_eq_some_iff.1 he).2
  unfold bindsL
  rw [List.take_succ_eq_append_getElem hk, List.map_append, h2]; rfl
theorem bindsL_len {gs : List Gl} {ts : List Ti} {xs : List Pl} {k : Nat} (hk : k ≤ xs.length) : (bindsL gs ts xs k).length = k := by
  unfold bindsL; simp; omega
noncomputable def bindsR (gs : List Gl) (ts : List Ti) (xs : List Pl) : List Int × Int := if validAsmB gs ts xs = true then (bindsL gs ts xs xs.length, 0) else ([], 1)
theorem bindsR_no {gs : List Gl} {ts : List Ti} {xs : List Pl} (h : validAsmB gs ts xs = false) : (([], 1) : List Int × Int) = bindsR gs ts xs := by unfold bindsR; rw [h, if_neg (by decide)]
theorem bindsR_yes {gs : List Gl} {ts : List Ti} {xs : List Pl} (h : validAsmB gs ts xs = true) : ((bindsL gs ts xs xs.length, 0) : List Int × Int) = bindsR gs ts xs := by unfold bindsR; rw [h, if_pos rfl]
theorem bindsR_len (gs : List Gl) (ts : List Ti) (xs : List Pl) : (bindsR gs ts xs).1.length ≤ 1073741824 := by
  unfold bindsR
  split
  · rename_i h
    have h3 := (valid_of h).len
    show (bindsL gs ts xs xs.length).length ≤ _
    rw [bindsL_len (Nat.le_refl _)]
    omega
  · simp
/-- the row of the first k -/
theorem row_snoc {w' : World} {B : Nat} {v' : Value} {k : Nat} {gs : List Gl} {ts : List Ti} {xs : List Pl} {e : Pl} {r : Int} (he : xs[k]? = some e) (hr : bindOf gs ts xs e = r) (h : w'.ownsRow B 2 1 v' (k + 1) ((bindsL gs ts xs k).map (Value.int .i64) ++ [.int .i64 r])) : w'.ownsRow B 2 1 v' (k + 1) ((bindsL gs ts xs (k + 1)).map (Value.int .i64)) := by
  rw [bindsL_succ he, List.map_append, hr]; exact h
end Go.Proofs.YtglcpphfmmnmkaaGreat
