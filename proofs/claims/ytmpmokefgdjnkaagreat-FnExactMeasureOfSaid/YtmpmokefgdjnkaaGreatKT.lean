import Derived.Test.YtmpmokefgdjnkaaGreatKS
import Derived.Test.YtmpmokefgdjnkaaGreatKR
import Derived.Test.YtmpmokefgdjnkaaGreatKC
set_option linter.unusedSimpArgs false
set_option linter.unusedVariables false
/- Walks: systems: the reference's test and the program's. -/

namespace Go.Proofs.YtmpmokefgdjnkaaGreat
open Go.RowKit Go.Shelf
attribute [local go_sem] BelowBy.cell BelowBy.cell_drew stillUpon givesUpon BelowBy.cell_drew2 BelowBy.cell_drew3

/-- a valid system -/
noncomputable def sysOkB (gs : List Gl) (ts : List Ti) (xs : List Pl) (t : Int) : Bool := decide (0 < xs.length) && (isStabR gs ts xs t).1
theorem isStabR_cases (gs : List Gl) (ts : List Ti) (xs : List Pl) (t : Int) : (∃ c : Int, c ≠ 0 ∧ isStabR gs ts xs t = (false, c)) ∨ ∃ b, isStabR gs ts xs t = (b, 0) := by
  unfold isStabR
  split
  · exact .inl ⟨1, by decide, rfl⟩
  · split
    · exact .inl ⟨2, by decide, rfl⟩
    · unfold stabVR stabR
      split
      · exact .inl ⟨4, by decide, rfl⟩
      · exact .inr ⟨_, rfl⟩
theorem sysOkB_valid {gs : List Gl} {ts : List Ti} {xs : List Pl} {t : Int} (h : sysOkB gs ts xs t = true) : validAsmB gs ts xs = true ∧ 0 < xs.length ∧ tempB t = true := by
  unfold sysOkB at h
  simp only [Bool.and_eq_true, decide_eq_true_eq] at h
  obtain ⟨h1, h2⟩ := h
  refine ⟨?_, h1, ?_⟩
  · cases hv : validAsmB gs ts xs
    · rw [← isStabR_no hv] at h2; cases h2
    · rfl
  · cases hv : validAsmB gs ts xs
    · rw [← isStabR_no hv] at h2; cases h2
    · cases ht : tempB t
      · rw [← isStabR_range hv ht] at h2; cases h2
      · rfl
structure SysAt (w : World) (p o : Nat) (gs : List Gl) (ts : List Ti) (xs : List Pl) (t : Int) : Prop where
  sat : SAt w p o p (o + 2) gs ts xs
  temp : w.cell? ⟨p, o + 3, none⟩ = some (.int .i64 t)
section
variable {w w' : World} {p o q oq : Nat} {gs : List Gl} {ts : List Ti} {xs : List Pl} {t : Int}
theorem SysAt.below (h : SysAt w p o gs ts xs t) (hb : Below w.heap.size w w') : SysAt w' p o gs ts xs t :=
  ⟨h.sat.below hb, (hb.cell (p := ⟨p, o + 3, none⟩) h.sat.s.lt).trans h.temp⟩
theorem SA.sysbox {G T A : Option Addr} {n m k : Nat} (h : SA w G n T m A k gs ts xs) (cg ct ca : Nat) (t : Int) : SysAt (w.alloc (Obj.cells #[.slice G n cg, .slice T m ct, .slice A k ca, .int .i64 t] 45)) w.heap.size 0 gs ts xs t :=
  ⟨⟨⟨by simp, ⟨G, n, cg, by go_simp, h.G.below RGl.stable (by exact bel_)⟩, ⟨T, m, ct, by go_simp, h.T.below RTi.stable (by exact bel_)⟩⟩, ⟨by simp, A, k, ca, by go_simp, h.A.below RPl.stable (by exact bel_)⟩,
    by rw [h.A.len]; exact h.q, by rw [h.G.len]; exact h.gm, by rw [h.T.len]; exact h.tm, h.gn, h.tn⟩, by go_simp⟩
theorem SAt.set {v : Bool} (h : SAt w p o q oq gs ts xs) (hv : validSetB gs ts = v) :
    Calls Tryz.prog 72 #[.pointer (some ⟨p, o, none⟩)] w fun e w' => e = .returned (.bool v) ∧ Below w.heap.size w w' := by
  rw [← hv]; exact l02Ok_any _ gs ts _ h.s (Nat.le_trans h.gm (by decide)) (Nat.le_trans h.tm (by decide)) h.gn h.tn
theorem SAt.form {v : Bool} (h : SAt w p o q oq gs ts xs) (hv : (hasFormB xs && allB xs.length (okTile ts.length xs)) = v) :
    Calls Tryz.prog 68 #[.pointer (some ⟨p, o, none⟩), .pointer (some ⟨q, oq, none⟩)] w fun e w' => e = .returned (.bool v) ∧ Below w.heap.size w w' := by
  rw [← hv]; exact l03Ok_any _ _ gs ts xs _ h.s h.a h.q (Nat.le_trans h.tm (by decide))
end
theorem l07Temperature_at (t : Int) (w : World) {v : Bool} (h : tempB t = v) : Calls Tryz.prog 97 #[.int .i64 t] w fun e w' => e = .returned (.bool v) ∧ w = w' := by
  rw [← h]; exact l07Temperature_any t w
set_option maxRecDepth 100000 in
set_option maxHeartbeats 4000000 in
theorem l08Ok_any {o : Nat} (p : Nat) (gs : List Gl) (ts : List Ti) (xs : List Pl) (t : Int) (w : World) (h : SysAt w p o gs ts xs t) :
    Calls Tryz.prog 67 #[.pointer (some ⟨p, o, none⟩)] w fun e w' => e = .returned (.bool (sysOkB gs ts xs t)) ∧ Below w.heap.size w w' := by
  
  have hS := Lib.hid h.sat
  have ct := h.temp
  have lp := h.sat.s.lt
  obtain ⟨lq, A, q, ca, cq, hA⟩ := h.sat.a
  have hlen := hA.len
  have hq0 := h.sat.q
  rw [hlen] at hq0
  have hlenH := Lib.hid hlen
  clear h hA hlen
  cases hv2 : validSetB gs ts
  · have hv2H := Lib.hid hv2
    have hr := Lib.hid (show false = sysOkB gs ts xs t by unfold sysOkB; rw [← isStabR_no (show validAsmB gs ts xs = false by unfold validAsmB; rw [hv2]; rfl)]; simp)
    clear hv2
    go_enter Tryz.func67, Tryz.ntmps67
    go_wp2
    refine wp_region_ord [(0, .q), (1, .q), (2, .q), (3, .g), (4, .q), (5, .q), (6, .q), (7, .q), (8, .q), (9, .q), (10, .q), (11, .q), (12, .g), (13, .q), (14, .q), (15, .q), (16, .q), (17, .q), (18, .q), (19, .q), (20, .q), (21, .q), (22, .q), (23, .q), (24, .q), (25, .q), (26, .q), (27, .q), (28, .q), (29, .g), (30, .q), (31, .q)] (by kernel_rfl) (by kernel_rfl) ?_
    simp only [pick, List.filterMap_cons, List.filterMap_nil, List.getElem?_toArray, List.getElem?_cons_zero, List.getElem?_cons_succ, Option.map_some]
    repeat (first
      | ((with_reducible refine wpD_p (fun K hK => ?_)); go_simp; refine hK _ ?_; clear hK K)
      | ((with_reducible refine wpD_q (fun K hK => ?_)); go_simp; (first | refine hK _ ?_ | (go_bits; refine hK _ ?_) | (go_bits; go_simp; refine hK _ ?_)); clear hK K)
      | ((with_reducible refine wpD_g (fun K hK => ?_)); go_simp; refine hK _ _ ?_; clear hK K)
      | ((with_reducible refine wpD_g (fun K hK => ?_)); go_simp; refine ⟨Grew.of_alloc _, hK _ _ ?_⟩; clear hK K)
      | ((with_reducible refine wpD_g (fun K hK => ?_)); go_simp; go_at_call 72; refine ((hS.out.below (by exact bel_)).set hv2H.out).mono ?_; rintro e w1 ⟨rfl, hb1⟩; refine ⟨_, rfl, hb1, hK _ _ ?_⟩; clear hK K; obtain ⟨chb1, fhb1, shb1, thb1⟩ := bcell hb1; (try have bhb10 := shb1 (p) (by go_simp)); have cq1 := (hb1.cell (p := ⟨p, o + 2, none⟩) (by simpa using lp)).trans (show _ = some (Value.slice A q ca) by simpa using cq); have ct1 := (hb1.cell (p := ⟨p, o + 3, none⟩) (by simpa using lp)).trans (show _ = some (Value.int .i64 t) by simpa using ct)))
    with_reducible refine wpD_nil ?_
    go_wp2
    go_ret
    exact ⟨ret_bool hr.out, by exact bel_⟩
  · have hv2H := Lib.hid hv2
    cases hv3 : (hasFormB xs && allB xs.length (okTile ts.length xs))
    · have hv3H := Lib.hid hv3
      have hr := Lib.hid (show false = sysOkB gs ts xs t by unfold sysOkB; rw [← isStabR_no (show validAsmB gs ts xs = false by unfold validAsmB; rw [hv2, hv3]; rfl)]; simp)
      clear hv2 hv3
      go_enter Tryz.func67, Tryz.ntmps67
      go_wp2
      refine wp_region_ord [(0, .q), (1, .q), (2, .q), (3, .g), (4, .q), (5, .q), (6, .q), (7, .q), (8, .q), (9, .q), (10, .q), (11, .q), (12, .g), (13, .q), (14, .q), (15, .q), (16, .q), (17, .q), (18, .q), (19, .q), (20, .q), (21, .q), (22, .q), (23, .q), (24, .q), (25, .q), (26, .q), (27, .q), (28, .q), (29, .g), (30, .q), (31, .q)] (by kernel_rfl) (by kernel_rfl) ?_
      simp only [pick, List.filterMap_cons, List.filterMap_nil, List.getElem?_toArray, List.getElem?_cons_zero, List.getElem?_cons_succ, Option.map_some]
      repeat (first
        | ((with_reducible refine wpD_p (fun K hK => ?_)); go_simp; refine hK _ ?_; clear hK K)
        | ((with_reducible refine wpD_q (fun K hK => ?_)); go_simp; (first | refine hK _ ?_ | (go_bits; refine hK _ ?_) | (go_bits; go_simp; refine hK _ ?_)); clear hK K)
        | ((with_reducible refine wpD_g (fun K hK => ?_)); go_simp; refine hK _ _ ?_; clear hK K)
        | ((with_reducible refine wpD_g (fun K hK => ?_)); go_simp; refine ⟨Grew.of_alloc _, hK _ _ ?_⟩; clear hK K)
        | ((with_reducible refine wpD_g (fun K hK => ?_)); go_simp; go_at_call 72; refine ((hS.out.below (by exact bel_)).set hv2H.out).mono ?_; rintro e w1 ⟨rfl, hb1⟩; refine ⟨_, rfl, hb1, hK _ _ ?_⟩; clear hK K; obtain ⟨chb1, fhb1, shb1, thb1⟩ := bcell hb1; (try have bhb10 := shb1 (p) (by go_simp)); have cq1 := (hb1.cell (p := ⟨p, o + 2, none⟩) (by simpa using lp)).trans (show _ = some (Value.slice A q ca) by simpa using cq); have ct1 := (hb1.cell (p := ⟨p, o + 3, none⟩) (by simpa using lp)).trans (show _ = some (Value.int .i64 t) by simpa using ct))
        | ((with_reducible refine wpD_g (fun K hK => ?_)); go_simp; go_at_call 68; refine ((hS.out.below (by exact bel_)).form hv3H.out).mono ?_; rintro e w2 ⟨rfl, hb2⟩; refine ⟨_, rfl, hb2, hK _ _ ?_⟩; clear hK K; obtain ⟨chb2, fhb2, shb2, thb2⟩ := bcell hb2; (try have bhb20 := shb2 (p) (by go_simp)); have cq2 := (hb2.cell (p := ⟨p, o + 2, none⟩) bhb10).trans cq1; have ct2 := (hb2.cell (p := ⟨p, o + 3, none⟩) bhb10).trans ct1))
      with_reducible refine wpD_nil ?_
      go_wp2
      go_ret
      exact ⟨ret_bool hr.out, by exact bel_⟩
    · have hv3H := Lib.hid hv3
      have hval : validAsmB gs ts xs = true := by unfold validAsmB; rw [hv2, hv3]; rfl
      have hvH := Lib.hid hval
      have hV := valid_of hval
      clear hv2 hv3 hval
      by_cases hq1 : q = 0
      · subst hq1
        have hr := Lib.hid (show false = sysOkB gs ts xs t by unfold sysOkB; rw [hlenH.out]; rfl)
        go_enter Tryz.func67, Tryz.ntmps67
        go_wp2
        refine wp_region_ord [(0, .q), (1, .q), (2, .q), (3, .g), (4, .q), (5, .q), (6, .q), (7, .q), (8, .q), (9, .q), (10, .q), (11, .q), (12, .g), (13, .q), (14, .q), (15, .q), (16, .q), (17, .q), (18, .q), (19, .q), (20, .q), (21, .q), (22, .q), (23, .q), (24, .q), (25, .q), (26, .q), (27, .q), (28, .q), (29, .g), (30, .q), (31, .q)] (by kernel_rfl) (by kernel_rfl) ?_
        simp only [pick, List.filterMap_cons, List.filterMap_nil, List.getElem?_toArray, List.getElem?_cons_zero, List.getElem?_cons_succ, Option.map_some]
        repeat (first
          | ((with_reducible refine wpD_p (fun K hK => ?_)); go_simp; refine hK _ ?_; clear hK K)
          | ((with_reducible refine wpD_q (fun K hK => ?_)); go_simp; (first | refine hK _ ?_ | (go_bits; refine hK _ ?_) | (go_bits; go_simp; refine hK _ ?_)); clear hK K)
          | ((with_reducible refine wpD_g (fun K hK => ?_)); go_simp; refine hK _ _ ?_; clear hK K)
          | ((with_reducible refine wpD_g (fun K hK => ?_)); go_simp; refine ⟨Grew.of_alloc _, hK _ _ ?_⟩; clear hK K)
          | ((with_reducible refine wpD_g (fun K hK => ?_)); go_simp; go_at_call 72; refine ((hS.out.below (by exact bel_)).set hv2H.out).mono ?_; rintro e w1 ⟨rfl, hb1⟩; refine ⟨_, rfl, hb1, hK _ _ ?_⟩; clear hK K; obtain ⟨chb1, fhb1, shb1, thb1⟩ := bcell hb1; (try have bhb10 := shb1 (p) (by go_simp)); have cq1 := (hb1.cell (p := ⟨p, o + 2, none⟩) (by simpa using lp)).trans (show _ = some (Value.slice A 0 ca) by simpa using cq); have ct1 := (hb1.cell (p := ⟨p, o + 3, none⟩) (by simpa using lp)).trans (show _ = some (Value.int .i64 t) by simpa using ct))
          | ((with_reducible refine wpD_g (fun K hK => ?_)); go_simp; go_at_call 68; refine ((hS.out.below (by exact bel_)).form hv3H.out).mono ?_; rintro e w2 ⟨rfl, hb2⟩; refine ⟨_, rfl, hb2, hK _ _ ?_⟩; clear hK K; obtain ⟨chb2, fhb2, shb2, thb2⟩ := bcell hb2; (try have bhb20 := shb2 (p) (by go_simp)); have cq2 := (hb2.cell (p := ⟨p, o + 2, none⟩) bhb10).trans cq1; have ct2 := (hb2.cell (p := ⟨p, o + 3, none⟩) bhb10).trans ct1))
        with_reducible refine wpD_nil ?_
        go_wp2
        go_ret
        exact ⟨ret_bool hr.out, by exact bel_⟩
      · have hqd : ((q : Int) == 0) = false := by simp; omega
        have hqH := Lib.hid hq1
        cases htm : tempB t
        · have htH := Lib.hid htm
          have hr := Lib.hid (show false = sysOkB gs ts xs t by unfold sysOkB; rw [← isStabR_range hvH.out htm]; simp)
          clear htm
          go_enter Tryz.func67, Tryz.ntmps67
          go_wp2
          refine wp_region_ord [(0, .q), (1, .q), (2, .q), (3, .g), (4, .q), (5, .q), (6, .q), (7, .q), (8, .q), (9, .q), (10, .q), (11, .q), (12, .g), (13, .q), (14, .q), (15, .q), (16, .q), (17, .q), (18, .q), (19, .q), (20, .q), (21, .q), (22, .q), (23, .q), (24, .q), (25, .q), (26, .q), (27, .q), (28, .q), (29, .g), (30, .q), (31, .q)] (by kernel_rfl) (by kernel_rfl) ?_
          simp only [pick, List.filterMap_cons, List.filterMap_nil, List.getElem?_toArray, List.getElem?_cons_zero, List.getElem?_cons_succ, Option.map_some]
          repeat (first
            | ((with_reducible refine wpD_p (fun K hK => ?_)); go_simp; refine hK _ ?_; clear hK K)
            | ((with_reducible refine wpD_q (fun K hK => ?_)); go_simp; (first | refine hK _ ?_ | (go_bits; refine hK _ ?_) | (go_bits; go_simp; refine hK _ ?_)); clear hK K)
            | ((with_reducible refine wpD_g (fun K hK => ?_)); go_simp; refine hK _ _ ?_; clear hK K)
            | ((with_reducible refine wpD_g (fun K hK => ?_)); go_simp; refine ⟨Grew.of_alloc _, hK _ _ ?_⟩; clear hK K)
            | ((with_reducible refine wpD_g (fun K hK => ?_)); go_simp; go_at_call 72; refine ((hS.out.below (by exact bel_)).set hv2H.out).mono ?_; rintro e w1 ⟨rfl, hb1⟩; refine ⟨_, rfl, hb1, hK _ _ ?_⟩; clear hK K; obtain ⟨chb1, fhb1, shb1, thb1⟩ := bcell hb1; (try have bhb10 := shb1 (p) (by go_simp)); have cq1 := (hb1.cell (p := ⟨p, o + 2, none⟩) (by simpa using lp)).trans (show _ = some (Value.slice A q ca) by simpa using cq); have ct1 := (hb1.cell (p := ⟨p, o + 3, none⟩) (by simpa using lp)).trans (show _ = some (Value.int .i64 t) by simpa using ct))
            | ((with_reducible refine wpD_g (fun K hK => ?_)); go_simp; go_at_call 68; refine ((hS.out.below (by exact bel_)).form hv3H.out).mono ?_; rintro e w2 ⟨rfl, hb2⟩; refine ⟨_, rfl, hb2, hK _ _ ?_⟩; clear hK K; obtain ⟨chb2, fhb2, shb2, thb2⟩ := bcell hb2; (try have bhb20 := shb2 (p) (by go_simp)); have cq2 := (hb2.cell (p := ⟨p, o + 2, none⟩) bhb10).trans cq1; have ct2 := (hb2.cell (p := ⟨p, o + 3, none⟩) bhb10).trans ct1)
            | ((with_reducible refine wpD_g (fun K hK => ?_)); go_simp; go_at_call 97; refine (l07Temperature_at t _ htH.out).mono ?_; rintro e _ ⟨rfl, rfl⟩; refine ⟨_, rfl, Below.refl _ _, hK _ _ ?_⟩; clear hK K))
          with_reducible refine wpD_nil ?_
          go_wp2
          go_ret
          exact ⟨ret_bool hr.out, by exact bel_⟩
        · have htH := Lib.hid htm
          obtain ⟨tn, rfl, ht1, ht2⟩ := tempB_true htm
          have hrr := isStabR_yes hvH.out htm
          have hrH := Lib.hid hrr
          have hsy := Lib.hid (show (isStabR gs ts xs tn).1 = sysOkB gs ts xs tn by unfold sysOkB; rw [hlenH.out, decide_eq_true (show 0 < q by omega), Bool.true_and])
          clear htm hrr
          rcases isStabR_cases gs ts xs tn with ⟨c, hc, hcr⟩ | ⟨b, hcr⟩
          · have hcrH := Lib.hid hcr
            clear hcr
            go_enter Tryz.func67, Tryz.ntmps67
            go_wp2
            refine wp_region_ord [(0, .q), (1, .q), (2, .q), (3, .g), (4, .q), (5, .q), (6, .q), (7, .q), (8, .q), (9, .q), (10, .q), (11, .q), (12, .g), (13, .q), (14, .q), (15, .q), (16, .q), (17, .q), (18, .q), (19, .q), (20, .q), (21, .q), (22, .q), (23, .q), (24, .q), (25, .q), (26, .q), (27, .q), (28, .q), (29, .g), (30, .q), (31, .q)] (by kernel_rfl) (by kernel_rfl) ?_
            simp only [pick, List.filterMap_cons, List.filterMap_nil, List.getElem?_toArray, List.getElem?_cons_zero, List.getElem?_cons_succ, Option.map_some]
            repeat (first
              | ((with_reducible refine wpD_p (fun K hK => ?_)); go_simp; refine hK _ ?_; clear hK K)
              | ((with_reducible refine wpD_q (fun K hK => ?_)); go_simp; (first | refine hK _ ?_ | (go_bits; refine hK _ ?_) | (go_bits; go_simp; refine hK _ ?_)); clear hK K)
              | ((with_reducible refine wpD_g (fun K hK => ?_)); go_simp; refine hK _ _ ?_; clear hK K)
              | ((with_reducible refine wpD_g (fun K hK => ?_)); go_simp; refine ⟨Grew.of_alloc _, hK _ _ ?_⟩; clear hK K)
              | ((with_reducible refine wpD_g (fun K hK => ?_)); go_simp; go_at_call 72; refine ((hS.out.below (by exact bel_)).set hv2H.out).mono ?_; rintro e w1 ⟨rfl, hb1⟩; refine ⟨_, rfl, hb1, hK _ _ ?_⟩; clear hK K; obtain ⟨chb1, fhb1, shb1, thb1⟩ := bcell hb1; (try have bhb10 := shb1 (p) (by go_simp)); have cq1 := (hb1.cell (p := ⟨p, o + 2, none⟩) (by simpa using lp)).trans (show _ = some (Value.slice A q ca) by simpa using cq); have ct1 := (hb1.cell (p := ⟨p, o + 3, none⟩) (by simpa using lp)).trans (show _ = some (Value.int .i64 (tn : Int)) by simpa using ct))
              | ((with_reducible refine wpD_g (fun K hK => ?_)); go_simp; go_at_call 68; refine ((hS.out.below (by exact bel_)).form hv3H.out).mono ?_; rintro e w2 ⟨rfl, hb2⟩; refine ⟨_, rfl, hb2, hK _ _ ?_⟩; clear hK K; obtain ⟨chb2, fhb2, shb2, thb2⟩ := bcell hb2; (try have bhb20 := shb2 (p) (by go_simp)); have cq2 := (hb2.cell (p := ⟨p, o + 2, none⟩) bhb10).trans cq1; have ct2 := (hb2.cell (p := ⟨p, o + 3, none⟩) bhb10).trans ct1)
              | ((with_reducible refine wpD_g (fun K hK => ?_)); go_simp; go_at_call 97; refine (l07Temperature_at tn _ htH.out).mono ?_; rintro e _ ⟨rfl, rfl⟩; refine ⟨_, rfl, Below.refl _ _, hK _ _ ?_⟩; clear hK K))
            with_reducible refine wpD_nil ?_
            go_wp2
            refine wp_region_ord [(0, .q), (1, .q), (2, .q), (3, .q), (4, .q), (5, .q), (6, .q), (7, .q), (8, .q), (9, .q), (10, .g), (11, .q), (12, .q), (13, .q), (14, .q), (15, .q)] (by kernel_rfl) (by kernel_rfl) ?_
            simp only [pick, List.filterMap_cons, List.filterMap_nil, List.getElem?_toArray, List.getElem?_cons_zero, List.getElem?_cons_succ, Option.map_some]
            repeat (first | ((with_reducible refine wpD_p (fun K hK => ?_)); go_simp; refine hK _ ?_; clear hK K) | ((with_reducible refine wpD_q (fun K hK => ?_)); go_simp; (first | refine hK _ ?_ | (go_bits; refine hK _ ?_) | (go_bits; go_simp; refine hK _ ?_)); clear hK K))
            with_reducible refine wpD_g (fun K hK => ?_)
            go_simp
            refine (l07Stable_any (hS.out.below (by exact bel_)) hV tn (by omega)).mono ?_
            rw [hrH.out, hcrH.out]
            rintro e w3 ⟨rfl, hb3⟩
            refine ⟨_, rfl, hb3, hK _ _ ?_⟩
            clear hK K
            repeat (first | ((with_reducible refine wpD_p (fun K hK => ?_)); go_simp; refine hK _ ?_; clear hK K) | ((with_reducible refine wpD_q (fun K hK => ?_)); go_simp; (first | refine hK _ ?_ | (go_bits; refine hK _ ?_) | (go_bits; go_simp; refine hK _ ?_)); clear hK K))
            with_reducible refine wpD_nil ?_
            go_wp2
            go_ret
            exact ⟨ret_bool (by rw [← hsy.out, hcrH.out]), by exact bel_⟩
          · have hcrH := Lib.hid hcr
            clear hcr
            cases b
            all_goals
              go_enter Tryz.func67, Tryz.ntmps67
              go_wp2
              refine wp_region_ord [(0, .q), (1, .q), (2, .q), (3, .g), (4, .q), (5, .q), (6, .q), (7, .q), (8, .q), (9, .q), (10, .q), (11, .q), (12, .g), (13, .q), (14, .q), (15, .q), (16, .q), (17, .q), (18, .q), (19, .q), (20, .q), (21, .q), (22, .q), (23, .q), (24, .q), (25, .q), (26, .q), (27, .q), (28, .q), (29, .g), (30, .q), (31, .q)] (by kernel_rfl) (by kernel_rfl) ?_
              simp only [pick, List.filterMap_cons, List.filterMap_nil, List.getElem?_toArray, List.getElem?_cons_zero, List.getElem?_cons_succ, Option.map_some]
              repeat (first
                | ((with_reducible refine wpD_p (fun K hK => ?_)); go_simp; refine hK _ ?_; clear hK K)
                | ((with_reducible refine wpD_q (fun K hK => ?_)); go_simp; (first | refine hK _ ?_ | (go_bits; refine hK _ ?_) | (go_bits; go_simp; refine hK _ ?_)); clear hK K)
                | ((with_reducible refine wpD_g (fun K hK => ?_)); go_simp; refine hK _ _ ?_; clear hK K)
                | ((with_reducible refine wpD_g (fun K hK => ?_)); go_simp; refine ⟨Grew.of_alloc _, hK _ _ ?_⟩; clear hK K)
                | ((with_reducible refine wpD_g (fun K hK => ?_)); go_simp; go_at_call 72; refine ((hS.out.below (by exact bel_)).set hv2H.out).mono ?_; rintro e w1 ⟨rfl, hb1⟩; refine ⟨_, rfl, hb1, hK _ _ ?_⟩; clear hK K; obtain ⟨chb1, fhb1, shb1, thb1⟩ := bcell hb1; (try have bhb10 := shb1 (p) (by go_simp)); have cq1 := (hb1.cell (p := ⟨p, o + 2, none⟩) (by simpa using lp)).trans (show _ = some (Value.slice A q ca) by simpa using cq); have ct1 := (hb1.cell (p := ⟨p, o + 3, none⟩) (by simpa using lp)).trans (show _ = some (Value.int .i64 (tn : Int)) by simpa using ct))
                | ((with_reducible refine wpD_g (fun K hK => ?_)); go_simp; go_at_call 68; refine ((hS.out.below (by exact bel_)).form hv3H.out).mono ?_; rintro e w2 ⟨rfl, hb2⟩; refine ⟨_, rfl, hb2, hK _ _ ?_⟩; clear hK K; obtain ⟨chb2, fhb2, shb2, thb2⟩ := bcell hb2; (try have bhb20 := shb2 (p) (by go_simp)); have cq2 := (hb2.cell (p := ⟨p, o + 2, none⟩) bhb10).trans cq1; have ct2 := (hb2.cell (p := ⟨p, o + 3, none⟩) bhb10).trans ct1)
                | ((with_reducible refine wpD_g (fun K hK => ?_)); go_simp; go_at_call 97; refine (l07Temperature_at tn _ htH.out).mono ?_; rintro e _ ⟨rfl, rfl⟩; refine ⟨_, rfl, Below.refl _ _, hK _ _ ?_⟩; clear hK K))
              with_reducible refine wpD_nil ?_
              go_wp2
              refine wp_region_ord [(0, .q), (1, .q), (2, .q), (3, .q), (4, .q), (5, .q), (6, .q), (7, .q), (8, .q), (9, .q), (10, .g), (11, .q), (12, .q), (13, .q), (14, .q), (15, .q)] (by kernel_rfl) (by kernel_rfl) ?_
              simp only [pick, List.filterMap_cons, List.filterMap_nil, List.getElem?_toArray, List.getElem?_cons_zero, List.getElem?_cons_succ, Option.map_some]
              repeat (first | ((with_reducible refine wpD_p (fun K hK => ?_)); go_simp; refine hK _ ?_; clear hK K) | ((with_reducible refine wpD_q (fun K hK => ?_)); go_simp; (first | refine hK _ ?_ | (go_bits; refine hK _ ?_) | (go_bits; go_simp; refine hK _ ?_)); clear hK K))
              with_reducible refine wpD_g (fun K hK => ?_)
              go_simp
              refine (l07Stable_any (hS.out.below (by exact bel_)) hV tn (by omega)).mono ?_
              rw [hrH.out, hcrH.out]
              rintro e w3 ⟨rfl, hb3⟩
              refine ⟨_, rfl, hb3, hK _ _ ?_⟩
              clear hK K
              repeat (first | ((with_reducible refine wpD_p (fun K hK => ?_)); go_simp; refine hK _ ?_; clear hK K) | ((with_reducible refine wpD_q (fun K hK => ?_)); go_simp; (first | refine hK _ ?_ | (go_bits; refine hK _ ?_) | (go_bits; go_simp; refine hK _ ?_)); clear hK K))
              with_reducible refine wpD_nil ?_
              go_wp2
              go_ret
              exact ⟨ret_bool (by rw [← hsy.out, hcrH.out]), by exact bel_⟩
set_option maxRecDepth 100000 in
set_option maxHeartbeats 2000000 in
theorem ValidSystem_any (G T A : Option Addr) (n cg m ct q ca : Nat) (gs : List Gl) (ts : List Ti) (xs : List Pl) (t : Int) (w : World) (h : SA w G n T m A q gs ts xs) :
    Calls Tryz.prog 80 #[.agg #[.slice G n cg, .slice T m ct, .slice A q ca, .int .i64 t]] w fun e w' => e = .returned (.bool (sysOkB gs ts xs t)) ∧ Below w.heap.size w w' := by
  
  have hSA := Lib.hid h
  have hlen := Lib.hid h.A.len
  have hq0 := h.q
  clear h
  by_cases hq1 : q = 0
  · subst hq1
    have hr := Lib.hid (show false = sysOkB gs ts xs t by unfold sysOkB; rw [hlen.out]; rfl)
    go_enter Tryz.func80, Tryz.ntmps80
    go_wp2
    go_ret
    exact ⟨ret_bool hr.out, by exact bel_⟩
  · have hqd : ((q : Int) == 0) = false := by simp; omega
    have hsy := Lib.hid (show (isStabR gs ts xs t).1 = sysOkB gs ts xs t by unfold sysOkB; rw [hlen.out, decide_eq_true (show 0 < q by omega), Bool.true_and])
    rcases isStabR_cases gs ts xs t with ⟨c, hc, hcr⟩ | ⟨b, hcr⟩
    · have hcrH := Lib.hid hcr
      clear hcr
      go_enter Tryz.func80, Tryz.ntmps80
      go_wp2_with (go_at_call 109; refine (IsStable_any G T A n cg m ct q ca gs ts xs t _ (hSA.out.below (by exact bel_))).mono ?_; rw [hcrH.out]; rintro e w1 ⟨rfl, hb1⟩)
      go_ret
      exact ⟨ret_bool (by rw [← hsy.out, hcrH.out]), by exact bel_⟩
    · have hcrH := Lib.hid hcr
      clear hcr
      cases b
      all_goals
        go_enter Tryz.func80, Tryz.ntmps80
        go_wp2_with (go_at_call 109; refine (IsStable_any G T A n cg m ct q ca gs ts xs t _ (hSA.out.below (by exact bel_))).mono ?_; rw [hcrH.out]; rintro e w1 ⟨rfl, hb1⟩)
        go_ret
        exact ⟨ret_bool (by rw [← hsy.out, hcrH.out]), by exact bel_⟩
end Go.Proofs.YtmpmokefgdjnkaaGreat
/- Walks: the tile at a point; with what strength a tile binds at a point. -/

namespace Go.Proofs.YtmpmokefgdjnkaaGreat
open Go.RowKit Go.Shelf
attribute [local go_sem] BelowBy.cell BelowBy.cell_drew stillUpon givesUpon BelowBy.cell_drew2 BelowBy.cell_drew3

/-- the tile at a point, or -1 -/
noncomputable def atI (xs : List Pl) (x y : Int) : Int := if placeI xs x y < 0 then -1 else match xs[(placeI xs x y).toNat]? with
  | some e => e.t
  | none => -1
theorem atI_none {xs : List Pl} {x y : Int} (h : placeI xs x y = -1) : atI xs x y = -1 := by unfold atI; rw [h, if_pos (by decide)]
theorem atI_some {xs : List Pl} {x y : Int} {k : Nat} {e : Pl} (h : placeI xs x y = k) (he : xs[k]? = some e) : atI xs x y = e.t := by
  unfold atI; rw [h, if_neg (by omega)]
  have : ((k : Nat) : Int).toNat = k := by omega
  simp only [this, he]
theorem atI_cases {gs : List Gl} {ts : List Ti} {xs : List Pl} (hV : Valid gs ts xs) (x y : Int) : (placeI xs x y = -1 ∧ atI xs x y = -1) ∨ ∃ (k t : Nat) (e : Pl), placeI xs x y = k ∧ xs[k]? = some e ∧ e.t = t ∧ t < ts.length ∧ atI xs x y = t := by
  rcases placeI_cases xs x y with h | ⟨k, h, hk⟩
  · exact Or.inl ⟨h, atI_none h⟩
  · have he := List.getElem?_eq_getElem hk
    obtain ⟨t, ht, htl⟩ := hV.ti k _ he
    exact Or.inr ⟨k, t, _, h, he, ht, htl, by rw [atI_some h he, ht]⟩
noncomputable def bindN (gs : List Gl) (ts : List Ti) (xs : List Pl) (x y : Int) (t : Nat) : Nat → Int
  | 0 => 0
  | k + 1 => bindN gs ts xs x y t k + (if 0 ≤ atI xs (stepX x k) (stepY y k) then bondI gs ts t k (atI xs (stepX x k) (stepY y k)).toNat else 0)
theorem strI_nonneg {gs : List Gl} {ts : List Ti} {xs : List Pl} (hV : Valid gs ts xs) (v : Int) : 0 ≤ strI gs v := by
  unfold strI
  split
  · decide
  · split
    · decide
    · rename_i g hg
      have := (hV.str _ _ hg).1
      omega
theorem bondI_nonneg {gs : List Gl} {ts : List Ti} {xs : List Pl} (hV : Valid gs ts xs) (a d b : Nat) : 0 ≤ bondI gs ts a d b := by
  unfold bondI
  split
  · exact strI_nonneg hV _
  · decide
theorem bindN_bound {gs : List Gl} {ts : List Ti} {xs : List Pl} (hV : Valid gs ts xs) (x y : Int) (t k : Nat) : 0 ≤ bindN gs ts xs x y t k ∧ bindN gs ts xs x y t k ≤ 4 * (k : Int) := by
  induction k with
  | zero => simp [bindN]
  | succ k ih =>
    simp only [bindN]
    have h1 := bondI_nonneg hV t k (atI xs (stepX x k) (stepY y k)).toNat
    have h2 := bondI_le hV t k (atI xs (stepX x k) (stepY y k)).toNat
    split <;> omega
set_option maxHeartbeats 1000000 in
theorem at_any (A : Option Addr) (n c : Nat) (gs : List Gl) (ts : List Ti) (xs : List Pl) (x y : Int) (w : World) (h2 : RdSl 3 RPl w A n xs) (hV : Valid gs ts xs) :
    Calls Tryz.prog 60 #[.agg #[.slice A n c], .agg #[.int .i64 x, .int .i64 y]] w fun e w' => e = .returned (.int .i64 (atI xs x y)) ∧ Below w.heap.size w w' := by
  have hl := h2.len
  have h2H := Lib.hid h2
  clear h2
  go_enter Tryz.func60, Tryz.ntmps60
  go_wp2_with fail
  refine (BinarySearch_any _ _ _ gs ts xs _ _ _ (h2H.out.below RPl.stable (by exact bel_)) hV).mono ?_
  rintro e w1 ⟨r, b, rfl, ⟨hp, hr0⟩, hb1⟩
  cases b
  · have hpH := Lib.hid (atI_none hp.symm)
    clear hp
    go_wp2
    go_ret
    exact ⟨ret_int hpH.out.symm, by exact bel_⟩
  · simp only [if_true] at hp
    rcases atI_cases hV x y with ⟨h1, _⟩ | ⟨k, t, e, h1, he, ht, htl, hat⟩
    · rw [h1] at hp
      omega
    · obtain rfl : r = (k : Int) := by rw [hp, h1]
      have hk : k < n := by rw [← hl]; exact lt_of_get he
      have hA1 := h2H.out.below RPl.stable (show Below w.heap.size w w1 by exact bel_)
      obtain ⟨bb, o, rfl, hb, hc⟩ := hA1.ptr (by omega)
      obtain ⟨c0, c1, c2⟩ := hc k e he
      obtain ⟨chb1, fhb1, shb1, thb1⟩ := bcell hb1
      have hatH := Lib.hid hat
      rw [ht] at c2
      have hk0 : (0 : Int) ≤ (k : Int) := by omega
      clear hp h1 he hat hc ht hA1 hl
      go_wp2
      go_ret
      exact ⟨ret_int hatH.out.symm, by exact bel_⟩
theorem l03Index_at {op p : Nat} {gs : List Gl} {ts : List Ti} {xs : List Pl} {x y r : Int} {w : World} (ha : AsmAt w p op xs) (hV : Valid gs ts xs) (h : placeI xs x y = r) :
    Calls Tryz.prog 74 #[.pointer (some ⟨p, op, none⟩), .agg #[.int .i64 x, .int .i64 y]] w fun e w' => e = .returned (.int .i64 r) ∧ Below w.heap.size w w' := by
  rw [← h]; exact l03Index_any p gs ts xs x y w ha hV
theorem at_at {A : Option Addr} {n c : Nat} {gs : List Gl} {ts : List Ti} {xs : List Pl} {x y r : Int} {w : World} (h2 : RdSl 3 RPl w A n xs) (hV : Valid gs ts xs) (h : atI xs x y = r) :
    Calls Tryz.prog 60 #[.agg #[.slice A n c], .agg #[.int .i64 x, .int .i64 y]] w fun e w' => e = .returned (.int .i64 r) ∧ Below w.heap.size w w' := by
  rw [← h]; exact at_any A n c gs ts xs x y w h2 hV
set_option maxHeartbeats 1000000 in
theorem l03At_any {op : Nat} (p : Nat) (gs : List Gl) (ts : List Ti) (xs : List Pl) (x y r : Int) (w : World) (ha : AsmAt w p op xs) (hV : Valid gs ts xs) (hr : atI xs x y = r) :
    Calls Tryz.prog 69 #[.pointer (some ⟨p, op, none⟩), .agg #[.int .i64 x, .int .i64 y]] w fun e w' => e = .returned (.int .i64 r) ∧ Below w.heap.size w w' := by
  
  obtain ⟨hlt, ⟨A, n, c, h1, h2⟩⟩ := id ha
  have hl := h2.len
  subst hr
  rcases atI_cases hV x y with ⟨h0, hat⟩ | ⟨k, t, e, h0, he, ht, htl, hat⟩
  · have hatH := Lib.hid hat
    have h0H := Lib.hid h0
    clear hat h0 h2
    go_enter Tryz.func69, Tryz.ntmps69
    go_wp2_with fail
    refine (l03Index_at (ha.below (by exact bel_)) hV h0H.out).mono ?_
    rintro e w1 ⟨rfl, hb1⟩
    go_wp2
    go_ret
    exact ⟨ret_int hatH.out.symm, by exact bel_⟩
  · have hatH := Lib.hid hat
    have h0H := Lib.hid h0
    have hkn : k < n := by rw [← hl]; exact lt_of_get he
    obtain ⟨b, o, rfl, hb, hc⟩ := h2.ptr (by omega)
    obtain ⟨c0, c1, c2⟩ := hc k e he
    rw [ht] at c2
    have hk0 : (0 : Int) ≤ (k : Int) := by omega
    clear hat h0 h2 hc he ht hl
    go_enter Tryz.func69, Tryz.ntmps69
    go_wp2_with fail
    refine (l03Index_at (ha.below (by exact bel_)) hV h0H.out).mono ?_
    rintro e w1 ⟨rfl, hb1⟩
    obtain ⟨chb1, fhb1, shb1, thb1⟩ := bcell hb1
    have k1 := shb1 p (by go_simp)
    have k2 := shb1 b (by go_simp)
    go_wp2
    go_ret
    exact ⟨ret_int hatH.out.symm, by exact bel_⟩
end Go.Proofs.YtmpmokefgdjnkaaGreat
/- Walks: the code of a system and an assembly; a glue by its name; the name of a tile's side. -/


namespace Go.Proofs.YtmpmokefgdjnkaaGreat
open Go.RowKit Go.Shelf
attribute [local go_sem] BelowBy.cell BelowBy.cell_drew stillUpon givesUpon BelowBy.cell_drew2 BelowBy.cell_drew3

/-- the error for a system and an assembly -/
noncomputable def growB (gs : List Gl) (ts : List Ti) (xs : List Pl) (t : Int) (ys : List Pl) : Bool := sysOkB gs ts xs t && validAsmB gs ts ys
theorem growB_true {gs : List Gl} {ts : List Ti} {xs : List Pl} {t : Int} {ys : List Pl} (h : growB gs ts xs t ys = true) : sysOkB gs ts xs t = true ∧ validAsmB gs ts ys = true := by
  simpa [growB] using h
theorem validSet_of {gs : List Gl} {ts : List Ti} {xs : List Pl} (h : validAsmB gs ts xs = true) : validSetB gs ts = true := by
  unfold validAsmB at h; simp only [Bool.and_eq_true] at h; exact h.1
theorem formB_of {gs : List Gl} {ts : List Ti} {ys : List Pl} (h : validSetB gs ts = true) : (hasFormB ys && allB ys.length (okTile ts.length ys)) = validAsmB gs ts ys := by
  unfold validAsmB; rw [h, Bool.true_and]
theorem growthCode_at {G T A C : Option Addr} {n cg m ct q ca k cc : Nat} {gs : List Gl} {ts : List Ti} {xs ys : List Pl} {t : Int} {w : World} (h : SA w G n T m A q gs ts xs) (h2 : SA w G n T m C k gs ts ys) {r : Bool} (hr : growB gs ts xs t ys = r) :
    Calls Tryz.prog 50 #[.agg #[.slice G n cg, .slice T m ct, .slice A q ca, .int .i64 t], .agg #[.slice C k cc]] w fun e w' => e = .returned (.int .i64 (codeB r)) ∧ Below w.heap.size w w' := by
  
  have hS := Lib.hid h
  have hA := Lib.hid h2
  have hrH := Lib.hid hr
  clear h h2 hr
  cases hs : sysOkB gs ts xs t
  · have hsH := Lib.hid hs
    have hr0 : r = false := by rw [← hrH.out]; simp [growB, hs]
    subst hr0
    clear hs
    go_enter Tryz.func50, Tryz.ntmps50
    go_wp2_with (go_at_call 80; refine (ValidSystem_any G T A n cg m ct q ca gs ts xs t _ (hS.out.below (by exact bel_))).mono ?_; rw [hsH.out]; rintro e w1 ⟨rfl, hb1⟩)
    go_ret
    exact ⟨rfl, by exact bel_⟩
  · have hsH := Lib.hid hs
    have hr0 : validAsmB gs ts ys = r := by rw [← hrH.out]; simp [growB, hs]
    have hr0H := Lib.hid hr0
    clear hs hr0
    cases r
    all_goals
      go_enter Tryz.func50, Tryz.ntmps50
      go_wp2_with (go_at_call 80; refine (ValidSystem_any G T A n cg m ct q ca gs ts xs t _ (hS.out.below (by exact bel_))).mono ?_; rw [hsH.out]; rintro e w1 ⟨rfl, hb1⟩; obtain ⟨chb1, fhb1, shb1, thb1⟩ := bcell hb1; (have b0 := shb1 w.heap.size (by go_simp)); (have b1 := shb1 (w.heap.size + 1) (by go_simp)))
      refine ((hA.out.below (by exact bel_)).valid hr0H.out).mono ?_
      rintro e w2 ⟨rfl, hb2⟩
      go_wp2
      go_ret
      exact ⟨rfl, by exact bel_⟩
theorem l08Asked_at {o p pa oa : Nat} {gs : List Gl} {ts : List Ti} {xs ys : List Pl} {t : Int} {w : World} (h : SysAt w p o gs ts xs t) (ha : AsmAt w pa oa ys) (hq : ys.length ≤ 1073741824) {r : Bool} (hr : growB gs ts xs t ys = r) :
    Calls Tryz.prog 37 #[.pointer (some ⟨p, o, none⟩), .pointer (some ⟨pa, oa, none⟩)] w fun e w' => e = .returned (.int .i64 (codeB r)) ∧ Below w.heap.size w w' := by
  
  have hS := Lib.hid h
  have hA := Lib.hid ha
  have hrH := Lib.hid hr
  have htm := h.sat.tm
  clear h ha hr
  cases hs : sysOkB gs ts xs t
  · have hsH := Lib.hid hs
    have hr0 : r = false := by rw [← hrH.out]; simp [growB, hs]
    subst hr0
    clear hs
    go_enter Tryz.func37, Tryz.ntmps37
    go_wp2_with (go_at_call 67; refine (l08Ok_any _ gs ts xs t _ hS.out).mono ?_; rw [hsH.out]; rintro e w1 ⟨rfl, hb1⟩)
    go_ret
    exact ⟨rfl, by exact bel_⟩
  · have hsH := Lib.hid hs
    have hfo := Lib.hid (show (hasFormB ys && allB ys.length (okTile ts.length ys)) = r by rw [formB_of (validSet_of (sysOkB_valid hs).1), ← hrH.out]; simp [growB, hs])
    clear hs
    cases r
    all_goals
      go_enter Tryz.func37, Tryz.ntmps37
      go_wp2_with (first
        | (go_at_call 67; refine (l08Ok_any _ gs ts xs t _ hS.out).mono ?_; rw [hsH.out]; rintro e w1 ⟨rfl, hb1⟩)
        | (go_at_call 68; refine (l03Ok_any _ _ gs ts ys _ (hS.out.sat.s.below (by exact bel_)) (hA.out.below (by exact bel_)) hq (by omega)).mono ?_; rw [hfo.out]; rintro e w2 ⟨rfl, hb2⟩))
      go_ret
      exact ⟨rfl, by exact bel_⟩
/-- a glue's number by its name, 0 if there is none -/
noncomputable def glueI (gs : List Gl) (s : ByteArray) : Nat := by
  classical
  exact match gs.findIdx? (fun g => decide (g.name = s)) with
    | some k => k + 1
    | none => 0
theorem glueI_at {gs : List Gl} {s : ByteArray} {k : Nat} {g : Gl} (hk : gs[k]? = some g) (h : g.name = s) (hb : ∀ j, j < k → ∀ e, gs[j]? = some e → e.name ≠ s) : glueI gs s = k + 1 := by
  classical
  obtain ⟨hkl, rfl⟩ := List.getElem?_eq_some_iff.1 hk
  have : gs.findIdx? (fun g => decide (g.name = s)) = some k := by
    rw [List.findIdx?_eq_some_iff_getElem]
    refine ⟨hkl, by simpa using h, fun j hj => ?_⟩
    have := hb j hj _ (List.getElem?_eq_getElem (by omega))
    simpa using this
  unfold glueI
  rw [this]
theorem glueI_none {gs : List Gl} {s : ByteArray} (hb : ∀ j, j < gs.length → ∀ e, gs[j]? = some e → e.name ≠ s) : glueI gs s = 0 := by
  classical
  have : gs.findIdx? (fun g => decide (g.name = s)) = none := by
    rw [List.findIdx?_eq_none_iff]
    intro e he
    obtain ⟨j, hj, rfl⟩ := List.mem_iff_getElem.1 he
    have := hb j hj _ (List.getElem?_eq_getElem hj)
    simpa using this
  unfold glueI
  rw [this]
set_option maxHeartbeats 1000000 in
theorem l02GlueN_any {op : Nat} (p : Nat) (gs : List Gl) (ts : List Ti) (s : ByteArray) (w : World) (h : SetAt w p op gs ts) (hm : gs.length ≤ 281474976710656) :
    Calls Tryz.prog 103 #[.pointer (some ⟨p, op, none⟩), .string s] w fun e w' => e = .returned (.int .i64 (glueI gs s : Int)) ∧ w = w' := by
  obtain ⟨hlt, ⟨A, n, c, h1, h2⟩, ⟨B, m, d, h3, h4⟩⟩ := h
  have hl := h2.len
  have h2H := Lib.hid h2
  clear h3 h4 h2
  go_enter Tryz.func103, Tryz.ntmps103
  go_wp2
  go_loopg [5] n (fun r x wr => ∃ k : Nat, k + r = n ∧ x = .int .i64 (k : Int) ∧ Hid (∀ j, j < k → ∀ e, gs[j]? = some e → e.name ≠ s) ∧ w = wr)
  case atStart => exact ⟨0, by omega, rfl, Lib.hid (fun j hj => by omega), rfl⟩
  case round =>
    obtain ⟨k, hk, rfl, hok, rfl⟩ := hrel
    by_cases hkn : k < n
    · obtain ⟨b, o, rfl, hbl, hc⟩ := h2H.out.ptr (by omega)
      obtain ⟨e, he⟩ := h2H.out.get hkn
      obtain ⟨c0, c1⟩ := hc k e he
      have heH := Lib.hid he
      clear hc he
      by_cases hn : e.name = s
      · have hn'' : (e.name.toList == s.toList) = true := (Lib.bytes_beq_iff _ _).2 hn
        have hr := Lib.hid (glueI_at heH.out hn hok.out)
        clear hn
        go_wp2
        go_ret
        exact ⟨ret_int (by rw [hr.out]; simp), rfl⟩
      · have hn'' : (e.name.toList == s.toList) = false := (Lib.bytes_beq_false_iff _ _).2 hn
        have hnH := Lib.hid hn
        clear hn
        go_wp2
        go_roundg (n - (k + 1))
        case measure => omega
        case rel => exact ⟨k + 1, by omega, by go_num, Lib.hid (fun j hj e' he' => by
            rcases Nat.lt_succ_iff_lt_or_eq.1 hj with hj | rfl
            · exact hok.out j hj e' he'
            · rw [← Option.some.inj (heH.out.symm.trans he')]
              exact hnH.out), rfl⟩
    · obtain rfl : k = n := by omega
      have hr := Lib.hid (glueI_none (gs := gs) (s := s) (fun j hj => hok.out j (by omega)))
      go_wp2
      go_ret
      exact ⟨ret_int (by rw [hr.out]; rfl), rfl⟩
/-- names of glues are all different -/
theorem names_ne {gs : List Gl} {ts : List Ti} (h : validSetB gs ts = true) {i j : Nat} {d e : Gl} (hi : gs[i]? = some d) (hj : gs[j]? = some e) (hn : d.name = e.name) : i = j := by
  have key : ∀ {i j : Nat} {d e : Gl}, gs[i]? = some d → gs[j]? = some e → d.name = e.name → ¬ i < j := fun {i j d e} hi hj hn hij => by
    unfold validSetB at h
    simp only [Bool.and_eq_true] at h
    have := allB_at h.2.1 (lt_of_get hj)
    unfold okGl at this
    rw [hj] at this
    simp only [Bool.and_eq_true] at this
    rw [freshG_false hj hij hi hn] at this
    cases this.2.2
  rcases Nat.lt_trichotomy i j with h1 | h1 | h1
  · exact (key hi hj hn h1).elim
  · exact h1
  · exact (key hj hi hn.symm h1).elim
theorem glueI_iff {gs : List Gl} {ts : List Ti} (h : validSetB gs ts = true) {k : Nat} {g : Gl} (hk : gs[k]? = some g) (s : ByteArray) : glueI gs s = k + 1 ↔ g.name = s := by
  constructor
  · intro he
    classical
    unfold glueI at he
    split at he
    · rename_i j hj
      obtain rfl : j = k := by omega
      rw [List.findIdx?_eq_some_iff_getElem] at hj
      obtain ⟨hl, h1, _⟩ := hj
      obtain ⟨_, rfl⟩ := List.getElem?_eq_some_iff.1 hk
      simpa using h1
    · omega
  · intro he
    exact glueI_at hk he (fun j hj e hej hn => by
      have := names_ne h hej hk (hn.trans he.symm)
      omega)
end Go.Proofs.YtmpmokefgdjnkaaGreat
/- Walks: an assembly within another one; the code of an assembly that must contain the seed. -/

namespace Go.Proofs.YtmpmokefgdjnkaaGreat
open Go.RowKit Go.Shelf
attribute [local go_sem] BelowBy.cell BelowBy.cell_drew stillUpon givesUpon BelowBy.cell_drew2 BelowBy.cell_drew3

/-- tile j stands in the other one, too -/
noncomputable def inAt (ys xs : List Pl) (j : Nat) : Bool := match xs[j]? with
  | none => true
  | some e => decide (atI ys e.x e.y = e.t)
theorem inAt_eq {ys xs : List Pl} {j : Nat} {e : Pl} (h : xs[j]? = some e) : inAt ys xs j = decide (atI ys e.x e.y = e.t) := by unfold inAt; rw [h]
noncomputable def withinB (xs ys : List Pl) : Bool := allB xs.length (inAt ys xs)
set_option maxHeartbeats 1000000 in
theorem Within1_any {gs : List Gl} {ts : List Ti} {ys : List Pl} (p : Nat) (C : Option Addr) (k cc : Nat) (e : Pl) (w : World) (h : w.cell? ⟨p, 0, none⟩ = some (.slice C k cc)) (hp : p < w.heap.size) (hC : RdSl 3 RPl w C k ys) (hV : Valid gs ts ys) :
    Calls Tryz.prog 83 #[.agg #[.int .i64 e.x, .int .i64 e.y, .int .i64 e.t], .pointer (some ⟨p, 0, none⟩)] w fun e' w' => e' = .returned (.bool (!decide (atI ys e.x e.y = e.t))) ∧ Below w.heap.size w w' := by
  
  have hCH := Lib.hid hC
  have hpl := Nat.le_of_lt hp
  clear hC
  obtain ⟨r, hr⟩ : ∃ r, atI ys e.x e.y = r := ⟨_, rfl⟩
  have hrH := Lib.hid hr
  rw [hr]
  clear hr
  by_cases hre : r = e.t
  · have hd : (r == e.t) = true := by simpa using hre
    have hd2 : (!decide (r = e.t)) = false := by simp [hre]
    rw [hd2]
    clear hre hd2
    go_enter Tryz.func83, Tryz.ntmps83
    go_wp2
    refine wp_region_ord [(0, .q), (1, .q), (2, .q), (4, .q), (5, .q), (3, .g), (6, .q), (7, .q)] (by kernel_rfl) (by kernel_rfl) ?_
    simp only [pick, List.filterMap_cons, List.filterMap_nil, List.getElem?_toArray, List.getElem?_cons_zero, List.getElem?_cons_succ, Option.map_some]
    repeat (first
      | ((with_reducible refine wpD_p (fun K hK => ?_)); go_simp; refine hK _ ?_; clear hK K)
      | ((with_reducible refine wpD_q (fun K hK => ?_)); go_simp; (first | refine hK _ ?_ | (go_bits; refine hK _ ?_) | (go_bits; go_simp; refine hK _ ?_)); clear hK K)
      | ((with_reducible refine wpD_g (fun K hK => ?_)); go_simp; refine hK _ _ ?_; clear hK K)
      | ((with_reducible refine wpD_g (fun K hK => ?_)); go_simp; refine ⟨Grew.of_alloc _, hK _ _ ?_⟩; clear hK K)
      | ((with_reducible refine wpD_g (fun K hK => ?_)); go_simp; go_at_call 60; refine (at_at (hCH.out.below RPl.stable (by exact bel_)) hV hrH.out).mono ?_; rintro e w1 ⟨rfl, hb1⟩; refine ⟨_, rfl, hb1, hK _ _ ?_⟩; clear hK K; obtain ⟨chb1, fhb1, shb1, thb1⟩ := bcell hb1; (try have bhb10 := shb1 (w.heap.size) (by go_simp))))
    with_reducible refine wpD_nil ?_
    go_wp2
    go_ret
    exact ⟨ret_bool (show (r != e.t) = false by rw [bne, hd]; rfl), by exact bel_⟩
  · have hd : (r == e.t) = false := by simpa using hre
    have hd2 : (!decide (r = e.t)) = true := by simp [hre]
    rw [hd2]
    clear hre hd2
    go_enter Tryz.func83, Tryz.ntmps83
    go_wp2
    refine wp_region_ord [(0, .q), (1, .q), (2, .q), (4, .q), (5, .q), (3, .g), (6, .q), (7, .q)] (by kernel_rfl) (by kernel_rfl) ?_
    simp only [pick, List.filterMap_cons, List.filterMap_nil, List.getElem?_toArray, List.getElem?_cons_zero, List.getElem?_cons_succ, Option.map_some]
    repeat (first
      | ((with_reducible refine wpD_p (fun K hK => ?_)); go_simp; refine hK _ ?_; clear hK K)
      | ((with_reducible refine wpD_q (fun K hK => ?_)); go_simp; (first | refine hK _ ?_ | (go_bits; refine hK _ ?_) | (go_bits; go_simp; refine hK _ ?_)); clear hK K)
      | ((with_reducible refine wpD_g (fun K hK => ?_)); go_simp; refine hK _ _ ?_; clear hK K)
      | ((with_reducible refine wpD_g (fun K hK => ?_)); go_simp; refine ⟨Grew.of_alloc _, hK _ _ ?_⟩; clear hK K)
      | ((with_reducible refine wpD_g (fun K hK => ?_)); go_simp; go_at_call 60; refine (at_at (hCH.out.below RPl.stable (by exact bel_)) hV hrH.out).mono ?_; rintro e w1 ⟨rfl, hb1⟩; refine ⟨_, rfl, hb1, hK _ _ ?_⟩; clear hK K; obtain ⟨chb1, fhb1, shb1, thb1⟩ := bcell hb1; (try have bhb10 := shb1 (w.heap.size) (by go_simp))))
    with_reducible refine wpD_nil ?_
    go_wp2
    go_ret
    exact ⟨ret_bool (show (r != e.t) = true by rw [bne, hd]; rfl), by exact bel_⟩
theorem IndexFuncW_any {gs : List Gl} {ts : List Ti} {ys : List Pl} (p : Nat) (C A : Option Addr) (k cc n c : Nat) (xs : List Pl) (w : World) (h : w.cell? ⟨p, 0, none⟩ = some (.slice C k cc)) (hp : p < w.heap.size) (hC : RdSl 3 RPl w C k ys) (hV : Valid gs ts ys) (hx : RdSl 3 RPl w A n xs) (hn : n ≤ 1073741824) :
    Calls Tryz.prog 113 #[.slice A n c, .func (.func 83) #[] #[.pointer (some ⟨p, 0, none⟩)]] w (FirstRes w n (inAt ys xs)) := by
  
  have hCH := Lib.hid hC
  clear hC
  go_enter Tryz.func113, Tryz.ntmps113
  go_wp2
  go_loopg [8] n (fun r x wr => ∃ k : Nat, k + r = n ∧ x = .int .i64 k ∧ (∀ j, j < k → inAt ys xs j = true) ∧ Below w.heap.size w wr)
  case atStart => exact ⟨0, by omega, rfl, fun j hj => by omega, by exact bel_⟩
  case round =>
    obtain ⟨j, hk, rfl, hok, hbw⟩ := hrel
    have hok := Lib.hid hok
    have g1 := (hbw.cell (p := ⟨p, 0, none⟩) hp).trans h
    have gp := Nat.lt_of_lt_of_le hp hbw.size
    have hx' := hx.below RPl.stable hbw
    have hCw := Lib.hid (hCH.out.below RPl.stable hbw)
    by_cases hkn : j < n
    · obtain ⟨b, o, rfl, hb, hc⟩ := hx'.ptr (by omega)
      obtain ⟨e, he⟩ := hx.get hkn
      obtain ⟨c0, c1, c2⟩ := hc j e he
      have HS := Lib.hid (inAt_eq (ys := ys) he)
      clear hc he hx hx'
      cases hv4 : decide (atI ys e.x e.y = e.t)
      · have hv4H := Lib.hid hv4
        clear hv4
        go_wp2_with (go_at_call 83; refine (Within1_any p C k cc e _ g1 gp hCw.out hV).mono ?_; rw [hv4H.out]; rintro e' w1 ⟨rfl, hb1⟩)
        go_ret
        exact ⟨_, rfl, by rw [allB_false hkn (by rw [HS.out, hv4H.out])]; simp, by exact bel_⟩
      · have hv4H := Lib.hid hv4
        clear hv4
        go_wp2_with (go_at_call 83; refine (Within1_any p C k cc e _ g1 gp hCw.out hV).mono ?_; rw [hv4H.out]; rintro e' w1 ⟨rfl, hb1⟩)
        go_roundg (n - (j + 1))
        case measure => omega
        case rel => exact ⟨j + 1, by omega, by go_num, fun i hi => (by rcases Nat.lt_succ_iff_lt_or_eq.1 hi with hi | rfl; exact hok.out i hi; rw [HS.out, hv4H.out]), by exact bel_⟩
    · obtain rfl : j = n := by omega
      go_wp2
      go_ret
      exact ⟨_, rfl, by rw [allB_true hok.out]; simp, by exact bel_⟩
theorem ContainsFuncW_any {gs : List Gl} {ts : List Ti} {ys : List Pl} (p : Nat) (C A : Option Addr) (k cc n c : Nat) (xs : List Pl) (w : World) (h : w.cell? ⟨p, 0, none⟩ = some (.slice C k cc)) (hp : p < w.heap.size) (hC : RdSl 3 RPl w C k ys) (hV : Valid gs ts ys) (hx : RdSl 3 RPl w A n xs) (hn : n ≤ 1073741824) :
    Calls Tryz.prog 82 #[.slice A n c, .func (.func 83) #[] #[.pointer (some ⟨p, 0, none⟩)]] w fun e w' => e = .returned (.bool (!allB n (inAt ys xs))) ∧ Below w.heap.size w w' := by
  
  have hCH := Lib.hid hC
  have hxH := Lib.hid hx
  clear hC hx
  go_enter Tryz.func82, Tryz.ntmps82
  go_wp2_with (go_at_call 113; refine (IndexFuncW_any p C A k cc n c xs _ h hp hCH.out hV hxH.out hn).mono ?_; rintro e w1 ⟨r, rfl, hr, hb1⟩)
  go_ret
  refine ⟨rfl, ?_⟩
  exact bel_
theorem formB_true {gs : List Gl} {ts : List Ti} {xs : List Pl} (h : validAsmB gs ts xs = true) : hasFormB xs = true := by
  unfold validAsmB at h; simp only [Bool.and_eq_true] at h; exact h.2.1
set_option maxRecDepth 100000 in
set_option maxHeartbeats 2000000 in
theorem IsWithin_at {gs : List Gl} {ts : List Ti} {xs ys : List Pl} {A C : Option Addr} {q ca k cc : Nat} {w : World} (h : RdSl 3 RPl w A q xs) (h2 : RdSl 3 RPl w C k ys) (hq : q ≤ 1073741824) (hk : k ≤ 1073741824) (hx : hasFormB xs = true) (hy : hasFormB ys = true) (hV : Valid gs ts ys) {r : Bool} (hr : withinB xs ys = r) :
    Calls Tryz.prog 51 #[.agg #[.slice A q ca], .agg #[.slice C k cc]] w fun e w' => e = .returned (.bool r) ∧ Below w.heap.size w w' := by
  
  have hA := Lib.hid h
  have hC := Lib.hid h2
  have hxH := Lib.hid hx
  have hyH := Lib.hid hy
  have hl := h.len
  have hrH := Lib.hid (show allB q (inAt ys xs) = r by rw [← hr]; unfold withinB; rw [hl])
  clear h h2 hx hy hr hl
  go_enter Tryz.func51, Tryz.ntmps51
  go_wp2_with fail
  refine (hasForm_any A q ca xs _ (hA.out.below RPl.stable (by exact bel_)) hq).mono ?_
  rw [hxH.out]
  rintro e w1 ⟨rfl, hb1⟩
  obtain ⟨chb1, fhb1, shb1, thb1⟩ := bcell hb1
  have b0 := shb1 w.heap.size (by go_simp)
  have b1 := shb1 (w.heap.size + 1) (by go_simp)
  go_wp2_with fail
  refine (hasForm_any C k cc ys _ (hC.out.below RPl.stable (by exact bel_)) hk).mono ?_
  rw [hyH.out]
  rintro e w2 ⟨rfl, hb2⟩
  obtain ⟨chb2, fhb2, shb2, thb2⟩ := bcell hb2
  have d0 := shb2 w.heap.size b0
  have d1 := shb2 (w.heap.size + 1) b1
  have k0 : w2.cell? ⟨w.heap.size + 1, 0, none⟩ = some (.slice C k cc) := (hb2.cell (p := ⟨w.heap.size + 1, 0, none⟩) b1).trans ((hb1.cell (p := ⟨w.heap.size + 1, 0, none⟩) (by simp)).trans (by go_simp))
  go_wp2_with fail
  refine (ContainsFuncW_any (w.heap.size + 1) C A k cc q ca xs _ k0 d1 (hC.out.below RPl.stable (by exact bel_)) hV (hA.out.below RPl.stable (by exact bel_)) hq).mono ?_
  rw [hrH.out]
  rintro e w3 ⟨rfl, hb3⟩
  go_wp2
  go_ret
  exact ⟨by cases r <;> rfl, by exact bel_⟩
/-- the code of a system and an assembly that must contain the seed -/
noncomputable def overI (gs : List Gl) (ts : List Ti) (xs : List Pl) (t : Int) (ys : List Pl) : Int := if growB gs ts xs t ys = false then 1 else if withinB xs ys = false then 2 else 0
theorem overI_zero {gs : List Gl} {ts : List Ti} {xs : List Pl} {t : Int} {ys : List Pl} (h : overI gs ts xs t ys = 0) : growB gs ts xs t ys = true ∧ withinB xs ys = true := by
  unfold overI at h
  split at h
  · cases h
  · rename_i h1
    split at h
    · cases h
    · rename_i h2
      exact ⟨by simpa using h1, by simpa using h2⟩
set_option maxRecDepth 100000 in
set_option maxHeartbeats 2000000 in
theorem insideCode_at {G T A C : Option Addr} {n cg m ct q ca k cc : Nat} {gs : List Gl} {ts : List Ti} {xs ys : List Pl} {t : Int} {w : World} (h : SA w G n T m A q gs ts xs) (h2 : SA w G n T m C k gs ts ys) {r : Int} (hr : overI gs ts xs t ys = r) :
    Calls Tryz.prog 25 #[.agg #[.slice G n cg, .slice T m ct, .slice A q ca, .int .i64 t], .agg #[.slice C k cc]] w fun e w' => e = .returned (.int .i64 r) ∧ Below w.heap.size w w' := by
  
  have hS := Lib.hid h
  have hA := Lib.hid h2
  have hq := h.q
  have hk := h2.q
  have hrH := Lib.hid hr
  clear h h2 hr
  cases hg : growB gs ts xs t ys
  · have hgH := Lib.hid hg
    have hr0 := Lib.hid (show (1 : Int) = r by rw [← hrH.out]; unfold overI; rw [if_pos hg])
    clear hg
    go_enter Tryz.func25, Tryz.ntmps25
    go_wp2_with (go_at_call 50; refine (growthCode_at (hS.out.below (by exact bel_)) (hA.out.below (by exact bel_)) hgH.out).mono ?_; simp only [codeB_false]; rintro e w1 ⟨rfl, hb1⟩)
    go_ret
    exact ⟨ret_int hr0.out, by exact bel_⟩
  · have hgH := Lib.hid hg
    have hV := valid_of (growB_true hg).2
    have hfx := Lib.hid (formB_true (sysOkB_valid (growB_true hg).1).1)
    have hfy := Lib.hid (formB_true (growB_true hg).2)
    cases hwn : withinB xs ys
    all_goals have hwnH := Lib.hid hwn
    · have hr0 := Lib.hid (show (2 : Int) = r by rw [← hrH.out]; unfold overI; rw [if_neg (by rw [hg]; decide), if_pos hwn])
      clear hg hwn
      go_enter Tryz.func25, Tryz.ntmps25
      go_wp2_with (first
        | (go_at_call 50; refine (growthCode_at (hS.out.below (by exact bel_)) (hA.out.below (by exact bel_)) hgH.out).mono ?_; simp only [codeB_true]; rintro e w1 ⟨rfl, hb1⟩; obtain ⟨chb1, fhb1, shb1, thb1⟩ := bcell hb1; (have b0 := shb1 w.heap.size (by go_simp)); (have b1 := shb1 (w.heap.size + 1) (by go_simp)))
        | (go_at_call 51; refine (IsWithin_at (hS.out.A.below RPl.stable (by exact bel_)) (hA.out.A.below RPl.stable (by exact bel_)) hq hk hfx.out hfy.out hV hwnH.out).mono ?_; rintro e w2 ⟨rfl, hb2⟩))
      go_ret
      exact ⟨ret_int hr0.out, by exact bel_⟩
    · have hr0 := Lib.hid (show (0 : Int) = r by rw [← hrH.out]; unfold overI; rw [if_neg (by rw [hg]; decide), if_neg (by rw [hwn]; decide)])
      clear hg hwn
      go_enter Tryz.func25, Tryz.ntmps25
      go_wp2_with (first
        | (go_at_call 50; refine (growthCode_at (hS.out.below (by exact bel_)) (hA.out.below (by exact bel_)) hgH.out).mono ?_; simp only [codeB_true]; rintro e w1 ⟨rfl, hb1⟩; obtain ⟨chb1, fhb1, shb1, thb1⟩ := bcell hb1; (have b0 := shb1 w.heap.size (by go_simp)); (have b1 := shb1 (w.heap.size + 1) (by go_simp)))
        | (go_at_call 51; refine (IsWithin_at (hS.out.A.below RPl.stable (by exact bel_)) (hA.out.A.below RPl.stable (by exact bel_)) hq hk hfx.out hfy.out hV hwnH.out).mono ?_; rintro e w2 ⟨rfl, hb2⟩))
      go_ret
      exact ⟨ret_int hr0.out, by exact bel_⟩
set_option maxRecDepth 100000 in
set_option maxHeartbeats 2000000 in
theorem l03Within_at {gs : List Gl} {ts : List Ti} {xs ys : List Pl} {p o pa oa : Nat} {w : World} (h : AsmAt w p o xs) (h2 : AsmAt w pa oa ys) (hV : Valid gs ts ys) (hq : xs.length ≤ 1073741824) {r : Bool} (hr : withinB xs ys = r) :
    Calls Tryz.prog 38 #[.pointer (some ⟨p, o, none⟩), .pointer (some ⟨pa, oa, none⟩)] w fun e w' => e = .returned (.bool r) ∧ Below w.heap.size w w' := by
  
  have hA := Lib.hid h
  have hC := Lib.hid h2
  have lp := h.lt
  obtain ⟨_, A, q, ca, cq, hR⟩ := id h
  have hl := hR.len
  have hrH := Lib.hid (show allB q (inAt ys xs) = r by rw [← hr]; unfold withinB; rw [hl])
  rw [hl] at hq
  clear h h2 hR hr hl
  go_enter Tryz.func38, Tryz.ntmps38
  go_wp2
  go_loopg [5] q (fun g i wr => ∃ j : Nat, j + g = q ∧ i = .int .i64 (j : Int) ∧ Hid (∀ i, i < j → inAt ys xs i = true) ∧ Hid (Below w.heap.size w wr))
  case atStart => exact ⟨0, by omega, rfl, Lib.hid (fun i hi => by omega), Lib.hid (bl_refl _)⟩
  case round =>
    obtain ⟨j, hj, rfl, hok, hbw⟩ := hrel
    have hsw := hbw.out.size
    have cqw := (hbw.out.cell (p := ⟨p, o, none⟩) lp).trans cq
    have lpw : p < wr.heap.size := by omega
    by_cases hjq : j < q
    · obtain ⟨_, A', q', ca', cq', hR⟩ := hA.out.below hbw.out
      rw [cqw] at cq'
      obtain ⟨rfl, rfl, rfl⟩ : A = A' ∧ q = q' ∧ ca = ca' := by injection cq' with h; injection h with a b c; exact ⟨a, b, c⟩
      obtain ⟨e, he⟩ := hR.get hjq
      obtain ⟨b, ob, hAe, hb, hc⟩ := hR.ptr (by omega)
      subst hAe
      obtain ⟨c0, c1, c2⟩ := hc j e he
      have HS := Lib.hid (inAt_eq (ys := ys) he)
      obtain ⟨v, hv⟩ : ∃ v, atI ys e.x e.y = v := ⟨_, rfl⟩
      have hvH := Lib.hid hv
      rw [hv] at HS
      have hCw := Lib.hid (hC.out.below hbw.out)
      clear hc he hR hv cq'
      by_cases hve : v = e.t
      · have hd : (v == e.t) = true := by simpa using hve
        have hok2 := Lib.hid (show inAt ys xs j = true by rw [HS.out]; simpa using hve)
        clear hve
        go_wp2
        refine wp_region_ord [(0, .q), (1, .q), (2, .q), (3, .q), (4, .q), (5, .q), (6, .q), (7, .q), (8, .q), (10, .q), (11, .q), (12, .q), (13, .q), (14, .q), (15, .q), (16, .q), (17, .q), (9, .g), (18, .q)] (by kernel_rfl) (by kernel_rfl) ?_
        simp only [pick, List.filterMap_cons, List.filterMap_nil, List.getElem?_toArray, List.getElem?_cons_zero, List.getElem?_cons_succ, Option.map_some]
        repeat (first
          | ((with_reducible refine wpD_p (fun K hK => ?_)); go_simp; refine hK _ ?_; clear hK K)
          | ((with_reducible refine wpD_q (fun K hK => ?_)); go_simp; (first | refine hK _ ?_ | (go_bits; refine hK _ ?_) | (go_bits; go_simp; refine hK _ ?_)); clear hK K)
          | ((with_reducible refine wpD_g (fun K hK => ?_)); go_simp; refine hK _ _ ?_; clear hK K)
          | ((with_reducible refine wpD_g (fun K hK => ?_)); go_simp; refine ⟨Grew.of_alloc _, hK _ _ ?_⟩; clear hK K)
          | ((with_reducible refine wpD_g (fun K hK => ?_)); go_simp; go_at_call 69; refine (l03At_any _ gs ts ys _ _ _ _ (hCw.out.below (by exact bel_)) hV hvH.out).mono ?_; rintro e w1 ⟨rfl, hb1⟩; refine ⟨_, rfl, hb1, hK _ _ ?_⟩; clear hK K; obtain ⟨chb1, fhb1, shb1, thb1⟩ := bcell hb1))
        with_reducible refine wpD_nil ?_
        go_wp2
        go_roundg (q - (j + 1))
        case measure => omega
        case rel => exact ⟨j + 1, by omega, by go_num, Lib.hid (fun i hi => (by rcases Nat.lt_succ_iff_lt_or_eq.1 hi with hi | rfl; exact hok.out i hi; exact hok2.out)), Lib.hid (hbw.out.trans (Below.mono (by exact bel_) hsw))⟩
      · have hd : (v == e.t) = false := by simpa using hve
        have hr2 := Lib.hid (show false = r by rw [← hrH.out, allB_false hjq (by rw [HS.out]; simpa using hve)])
        clear hve
        go_wp2
        refine wp_region_ord [(0, .q), (1, .q), (2, .q), (3, .q), (4, .q), (5, .q), (6, .q), (7, .q), (8, .q), (10, .q), (11, .q), (12, .q), (13, .q), (14, .q), (15, .q), (16, .q), (17, .q), (9, .g), (18, .q)] (by kernel_rfl) (by kernel_rfl) ?_
        simp only [pick, List.filterMap_cons, List.filterMap_nil, List.getElem?_toArray, List.getElem?_cons_zero, List.getElem?_cons_succ, Option.map_some]
        repeat (first
          | ((with_reducible refine wpD_p (fun K hK => ?_)); go_simp; refine hK _ ?_; clear hK K)
          | ((with_reducible refine wpD_q (fun K hK => ?_)); go_simp; (first | refine hK _ ?_ | (go_bits; refine hK _ ?_) | (go_bits; go_simp; refine hK _ ?_)); clear hK K)
          | ((with_reducible refine wpD_g (fun K hK => ?_)); go_simp; refine hK _ _ ?_; clear hK K)
          | ((with_reducible refine wpD_g (fun K hK => ?_)); go_simp; refine ⟨Grew.of_alloc _, hK _ _ ?_⟩; clear hK K)
          | ((with_reducible refine wpD_g (fun K hK => ?_)); go_simp; go_at_call 69; refine (l03At_any _ gs ts ys _ _ _ _ (hCw.out.below (by exact bel_)) hV hvH.out).mono ?_; rintro e w1 ⟨rfl, hb1⟩; refine ⟨_, rfl, hb1, hK _ _ ?_⟩; clear hK K; obtain ⟨chb1, fhb1, shb1, thb1⟩ := bcell hb1))
        with_reducible refine wpD_nil ?_
        go_wp2
        go_ret
        exact ⟨ret_bool hr2.out, hbw.out.trans (Below.mono (by exact bel_) hsw)⟩
    · obtain rfl : j = q := by omega
      have hr2 := Lib.hid (show true = r by rw [← hrH.out, allB_true hok.out])
      go_wp2
      go_ret
      exact ⟨ret_bool hr2.out, hbw.out⟩
theorem l08Over_at {o p pa oa : Nat} {gs : List Gl} {ts : List Ti} {xs ys : List Pl} {t : Int} {w : World} (h : SysAt w p o gs ts xs t) (ha : AsmAt w pa oa ys) (hq : ys.length ≤ 1073741824) {r : Int} (hr : overI gs ts xs t ys = r) :
    Calls Tryz.prog 15 #[.pointer (some ⟨p, o, none⟩), .pointer (some ⟨pa, oa, none⟩)] w fun e w' => e = .returned (.int .i64 r) ∧ Below w.heap.size w w' := by
  
  have hS := Lib.hid h
  have hA := Lib.hid ha
  have hrH := Lib.hid hr
  clear h ha hr
  cases hg : growB gs ts xs t ys
  · have hgH := Lib.hid hg
    have hr0 := Lib.hid (show (1 : Int) = r by rw [← hrH.out]; unfold overI; rw [if_pos hg])
    clear hg
    go_enter Tryz.func15, Tryz.ntmps15
    go_wp2_with (go_at_call 37; refine (l08Asked_at hS.out hA.out hq hgH.out).mono ?_; simp only [codeB_false]; rintro e w1 ⟨rfl, hb1⟩)
    go_ret
    exact ⟨ret_int hr0.out, by exact bel_⟩
  · have hgH := Lib.hid hg
    have hV := valid_of (growB_true hg).2
    cases hwn : withinB xs ys
    all_goals have hwnH := Lib.hid hwn
    · have hr0 := Lib.hid (show (2 : Int) = r by rw [← hrH.out]; unfold overI; rw [if_neg (by rw [hg]; decide), if_pos hwn])
      clear hg hwn
      go_enter Tryz.func15, Tryz.ntmps15
      go_wp2_with (first
        | (go_at_call 37; refine (l08Asked_at hS.out hA.out hq hgH.out).mono ?_; simp only [codeB_true]; rintro e w1 ⟨rfl, hb1⟩)
        | (go_at_call 38; refine (l03Within_at (hS.out.sat.a.below (by exact bel_)) (hA.out.below (by exact bel_)) hV hS.out.sat.q hwnH.out).mono ?_; rintro e w2 ⟨rfl, hb2⟩))
      go_ret
      exact ⟨ret_int hr0.out, by exact bel_⟩
    · have hr0 := Lib.hid (show (0 : Int) = r by rw [← hrH.out]; unfold overI; rw [if_neg (by rw [hg]; decide), if_neg (by rw [hwn]; decide)])
      clear hg hwn
      go_enter Tryz.func15, Tryz.ntmps15
      go_wp2_with (first
        | (go_at_call 37; refine (l08Asked_at hS.out hA.out hq hgH.out).mono ?_; simp only [codeB_true]; rintro e w1 ⟨rfl, hb1⟩)
        | (go_at_call 38; refine (l03Within_at (hS.out.sat.a.below (by exact bel_)) (hA.out.below (by exact bel_)) hV hS.out.sat.q hwnH.out).mono ?_; rintro e w2 ⟨rfl, hb2⟩))
      go_ret
      exact ⟨ret_int hr0.out, by exact bel_⟩
end Go.Proofs.YtmpmokefgdjnkaaGreat
/- Walks: tiles of the seed, and how many there are not. -/

namespace Go.Proofs.YtmpmokefgdjnkaaGreat
open Go.RowKit Go.Shelf
attribute [local go_sem] BelowBy.cell BelowBy.cell_drew stillUpon givesUpon BelowBy.cell_drew2 BelowBy.cell_drew3

theorem inB_natD {x lo hi : Int} (h : inB x lo hi = true) (h0 : 0 ≤ lo) : ∃ k : Nat, x = k ∧ lo ≤ (k : Int) ∧ (k : Int) ≤ hi := by
  have := inB_true.1 h
  exact ⟨x.toNat, by omega, by omega, by omega⟩
/-- a tile of the seed -/
noncomputable def seedB (xs : List Pl) (e : Pl) : Bool := decide (atI xs e.x e.y = e.t)
set_option maxHeartbeats 1000000 in
theorem isSeedTile_at {G T A : Option Addr} {n cg m ct q ca : Nat} {gs : List Gl} {ts : List Ti} {xs : List Pl} {t : Int} {e : Pl} {w : World} (h : RdSl 3 RPl w A q xs) (hV : Valid gs ts xs) {r : Bool} (hr : seedB xs e = r) :
    Calls Tryz.prog 58 #[.agg #[.slice G n cg, .slice T m ct, .slice A q ca, .int .i64 t], .agg #[.int .i64 e.x, .int .i64 e.y, .int .i64 e.t]] w fun e' w' => e' = .returned (.bool r) ∧ Below w.heap.size w w' := by
  
  have hA := Lib.hid h
  obtain ⟨v, hv⟩ : ∃ v, atI xs e.x e.y = v := ⟨_, rfl⟩
  have hvH := Lib.hid hv
  have hrH := Lib.hid (show decide (v = e.t) = r by rw [← hr, ← hv]; rfl)
  clear h hv hr
  by_cases hve : v = e.t
  all_goals
    first
      | have hd : (v == e.t) = true := by simpa using hve
      | have hd : (v == e.t) = false := by simpa using hve
    have hr2 := Lib.hid (show (v == e.t) = r by rw [← hrH.out]; simp [hve])
    clear hve
    go_enter Tryz.func58, Tryz.ntmps58
    go_wp2
    refine wp_region_ord [(0, .q), (1, .q), (2, .q), (3, .q), (5, .q), (6, .q), (4, .g), (7, .q), (8, .q)] (by kernel_rfl) (by kernel_rfl) ?_
    simp only [pick, List.filterMap_cons, List.filterMap_nil, List.getElem?_toArray, List.getElem?_cons_zero, List.getElem?_cons_succ, Option.map_some]
    repeat (first
      | ((with_reducible refine wpD_p (fun K hK => ?_)); go_simp; refine hK _ ?_; clear hK K)
      | ((with_reducible refine wpD_q (fun K hK => ?_)); go_simp; (first | refine hK _ ?_ | (go_bits; refine hK _ ?_) | (go_bits; go_simp; refine hK _ ?_)); clear hK K)
      | ((with_reducible refine wpD_g (fun K hK => ?_)); go_simp; refine hK _ _ ?_; clear hK K)
      | ((with_reducible refine wpD_g (fun K hK => ?_)); go_simp; refine ⟨Grew.of_alloc _, hK _ _ ?_⟩; clear hK K)
      | ((with_reducible refine wpD_g (fun K hK => ?_)); go_simp; go_at_call 60; refine (at_at (hA.out.below RPl.stable (by exact bel_)) hV hvH.out).mono ?_; rintro e w1 ⟨rfl, hb1⟩; refine ⟨_, rfl, hb1, hK _ _ ?_⟩; clear hK K; obtain ⟨chb1, fhb1, shb1, thb1⟩ := bcell hb1; (try have bhb10 := shb1 (w.heap.size) (by go_simp)); (try have bhb11 := shb1 (w.heap.size + 1) (by go_simp))))
    with_reducible refine wpD_nil ?_
    go_wp2
    go_ret
    exact ⟨ret_bool (by rw [← hr2.out, hd]), by exact bel_⟩
set_option maxHeartbeats 1000000 in
theorem l25Seed_at {p o : Nat} {gs : List Gl} {ts : List Ti} {xs : List Pl} {t : Int} {e : Pl} {w : World} (h : SysAt w p o gs ts xs t) (hV : Valid gs ts xs) {r : Bool} (hr : seedB xs e = r) :
    Calls Tryz.prog 45 #[.pointer (some ⟨p, o, none⟩), .agg #[.int .i64 e.x, .int .i64 e.y, .int .i64 e.t]] w fun e' w' => e' = .returned (.bool r) ∧ Below w.heap.size w w' := by
  
  have hS := Lib.hid h
  obtain ⟨v, hv⟩ : ∃ v, atI xs e.x e.y = v := ⟨_, rfl⟩
  have hvH := Lib.hid hv
  have hrH := Lib.hid (show decide (v = e.t) = r by rw [← hr, ← hv]; rfl)
  clear h hv hr
  by_cases hve : v = e.t
  all_goals
    first
      | have hd : (v == e.t) = true := by simpa using hve
      | have hd : (v == e.t) = false := by simpa using hve
    have hr2 := Lib.hid (show (v == e.t) = r by rw [← hrH.out]; simp [hve])
    clear hve
    go_enter Tryz.func45, Tryz.ntmps45
    go_wp2
    refine wp_region_ord [(0, .q), (1, .q), (2, .q), (3, .q), (4, .q), (6, .q), (7, .q), (5, .g), (8, .q), (9, .q)] (by kernel_rfl) (by kernel_rfl) ?_
    simp only [pick, List.filterMap_cons, List.filterMap_nil, List.getElem?_toArray, List.getElem?_cons_zero, List.getElem?_cons_succ, Option.map_some]
    repeat (first
      | ((with_reducible refine wpD_p (fun K hK => ?_)); go_simp; refine hK _ ?_; clear hK K)
      | ((with_reducible refine wpD_q (fun K hK => ?_)); go_simp; (first | refine hK _ ?_ | (go_bits; refine hK _ ?_) | (go_bits; go_simp; refine hK _ ?_)); clear hK K)
      | ((with_reducible refine wpD_g (fun K hK => ?_)); go_simp; refine hK _ _ ?_; clear hK K)
      | ((with_reducible refine wpD_g (fun K hK => ?_)); go_simp; refine ⟨Grew.of_alloc _, hK _ _ ?_⟩; clear hK K)
      | ((with_reducible refine wpD_g (fun K hK => ?_)); go_simp; go_at_call 69; refine (l03At_any _ gs ts xs _ _ _ _ (hS.out.sat.a.below (by exact bel_)) hV hvH.out).mono ?_; rintro e w1 ⟨rfl, hb1⟩; refine ⟨_, rfl, hb1, hK _ _ ?_⟩; clear hK K; obtain ⟨chb1, fhb1, shb1, thb1⟩ := bcell hb1; (try have bhb10 := shb1 (w.heap.size) (by go_simp))))
    with_reducible refine wpD_nil ?_
    go_wp2
    go_ret
    exact ⟨ret_bool (by rw [← hr2.out, hd]), by exact bel_⟩
/-- how many of the first k tiles are not of the seed -/
noncomputable def softN (xs ys : List Pl) : Nat → Nat
  | 0 => 0
  | k + 1 => softN xs ys k + match ys[k]? with
    | some e => if seedB xs e = true then 0 else 1
    | none => 0
theorem softN_seed {xs ys : List Pl} {k : Nat} {e : Pl} (he : ys[k]? = some e) (h : seedB xs e = true) : softN xs ys (k + 1) = softN xs ys k := by simp only [softN, he]; rw [if_pos h]; rfl
theorem softN_soft {xs ys : List Pl} {k : Nat} {e : Pl} (he : ys[k]? = some e) (h : seedB xs e = false) : softN xs ys (k + 1) = softN xs ys k + 1 := by simp only [softN, he]; rw [if_neg (by rw [h]; decide)]
theorem softN_le (xs ys : List Pl) : ∀ k, softN xs ys k ≤ k
  | 0 => Nat.le_refl _
  | k + 1 => by
    have := softN_le xs ys k
    simp only [softN]
    split
    · split <;> omega
    · omega
end Go.Proofs.YtmpmokefgdjnkaaGreat
/- Walks: with what strength a tile binds at a point, by the program and by the reference. -/

namespace Go.Proofs.YtmpmokefgdjnkaaGreat
open Go.RowKit Go.Shelf
attribute [local go_sem] BelowBy.cell BelowBy.cell_drew stillUpon givesUpon BelowBy.cell_drew2 BelowBy.cell_drew3

theorem bindN_succ_none {gs : List Gl} {ts : List Ti} {xs : List Pl} {x y S : Int} {t k : Nat} (hS : bindN gs ts xs x y t k = S) (h : atI xs (stepX x k) (stepY y k) = -1) : bindN gs ts xs x y t (k + 1) = S := by
  simp only [bindN]; rw [hS, h, if_neg (by decide)]; omega
theorem bindN_succ_some {gs : List Gl} {ts : List Ti} {xs : List Pl} {x y S r : Int} {t k t2 : Nat} (hS : bindN gs ts xs x y t k = S) (h : atI xs (stepX x k) (stepY y k) = t2) (hr : bondI gs ts t k t2 = r) : bindN gs ts xs x y t (k + 1) = S + r := by
  simp only [bindN]; rw [hS, h, if_pos (by omega)]
  have : ((t2 : Nat) : Int).toNat = t2 := by omega
  rw [this, hr]
set_option maxRecDepth 100000 in
set_option maxHeartbeats 2000000 in
theorem binding_any (G T A : Option Addr) (n cg m ct q ca : Nat) (gs : List Gl) (ts : List Ti) (xs : List Pl) (x y : Int) (t : Nat) (w : World) (hG : RdSl 2 RGl w G n gs) (hT : RdSl 2 RTi w T m ts) (hA : RdSl 3 RPl w A q xs) (hV : Valid gs ts xs) (ht : t < ts.length) (hx : -900 ≤ x ∧ x ≤ 900) (hy : -900 ≤ y ∧ y ≤ 900) :
    Calls Tryz.prog 59 #[.agg #[.slice G n cg, .slice T m ct], .agg #[.int .i64 x, .int .i64 y], .int .i64 (t : Int), .func (.func 60) #[.agg #[.slice A q ca]] #[]] w fun e w' => e = .returned (.int .i64 (bindN gs ts xs x y t 4)) ∧ Below w.heap.size w w' := by
  
  go_enter Tryz.func59, Tryz.ntmps59
  go_wp2
  go_loopg [12, 9] 4 (fun r c s wr => ∃ k : Nat, k + r = 4 ∧ c = .int .i64 (k : Int) ∧ s = .int .i64 (bindN gs ts xs x y t k) ∧ Below w.heap.size w wr ∧ wr.cell? ⟨w.heap.size, 0, none⟩ = some (.slice G n cg) ∧ wr.cell? ⟨w.heap.size, 1, none⟩ = some (.slice T m ct) ∧ wr.cell? ⟨w.heap.size + 1, 0, none⟩ = some (.int .i64 x) ∧ wr.cell? ⟨w.heap.size + 1, 1, none⟩ = some (.int .i64 y) ∧ w.heap.size + 1 < wr.heap.size)
  case atStart => exact ⟨0, by omega, rfl, rfl, by exact bel_, by go_simp, by go_simp, by go_simp, by go_simp, by simp⟩
  case round =>
    obtain ⟨k, hk, rfl, rfl, hbw, y0, y1, y2, y3, hsz⟩ := hrel
    have hbd := bindN_bound hV x y t k
    have hsz0 : w.heap.size < wr.heap.size := by omega
    by_cases hlt : k < 4
    · have hltI : (k : Int) < 4 := by omega
      have hk0 : (0 : Int) ≤ (k : Int) := by omega
      obtain ⟨S, hS⟩ : ∃ S, bindN gs ts xs x y t k = S := ⟨_, rfl⟩
      rw [hS] at hbd
      rw [hS]
      have hSH := Lib.hid hS
      clear hS
      have hb0 : 0 ≤ S := hbd.1
      have hb1' : S ≤ 1000 := by have := hbd.2; omega
      clear hbd
      rcases atI_cases hV (stepX x k) (stepY y k) with ⟨_, hat⟩ | ⟨i, t2, e, _, _, _, ht2, hat⟩
      · have hatH := Lib.hid hat
        have hnx := Lib.hid (bindN_succ_none hSH.out hat)
        clear hat
        go_wp2_with (first
          | (go_at_call 86; refine (step_at k rfl hlt ⟨by omega, by omega⟩ ⟨by omega, by omega⟩ rfl rfl).mono ?_; rintro e w1 ⟨rfl, hb1⟩; obtain ⟨chb1, fhb1, shb1, thb1⟩ := bcell hb1; (try have bhb10 := shb1 (w.heap.size) (by go_simp)); (try have bhb11 := shb1 (w.heap.size + 1) (by go_simp)))
          | (go_at_call 60; refine (at_at (hA.below RPl.stable (by exact bel_)) hV hatH.out).mono ?_; rintro e w2 ⟨rfl, hb2⟩; obtain ⟨chb2, fhb2, shb2, thb2⟩ := bcell hb2; (try have bhb20 := shb2 (w.heap.size) (by go_simp)); (try have bhb21 := shb2 (w.heap.size + 1) (by go_simp))))
        go_roundg (4 - (k + 1))
        case measure => omega
        case rel => exact ⟨k + 1, by omega, by go_num, by rw [hnx.out], by exact bel_, by go_simp, by go_simp, by go_simp, by go_simp, by go_simp⟩
      · obtain ⟨r, hr⟩ : ∃ r, bondI gs ts t k t2 = r := ⟨_, rfl⟩
        have hatH := Lib.hid hat
        have hrH := Lib.hid hr
        have hnx := Lib.hid (bindN_succ_some hSH.out hat hr)
        have hr0 : 0 ≤ r := by rw [← hr]; exact bondI_nonneg hV _ _ _
        have hr4 : r ≤ 4 := by rw [← hr]; exact bondI_le hV _ _ _
        have ht20 : (0 : Int) ≤ (t2 : Int) := by omega
        clear hat hr
        go_wp2_with (first
          | (go_at_call 86; refine (step_at k rfl hlt ⟨by omega, by omega⟩ ⟨by omega, by omega⟩ rfl rfl).mono ?_; rintro e w1 ⟨rfl, hb1⟩; obtain ⟨chb1, fhb1, shb1, thb1⟩ := bcell hb1; (try have bhb10 := shb1 (w.heap.size) (by go_simp)); (try have bhb11 := shb1 (w.heap.size + 1) (by go_simp)))
          | (go_at_call 60; refine (at_at (hA.below RPl.stable (by exact bel_)) hV hatH.out).mono ?_; rintro e w2 ⟨rfl, hb2⟩; obtain ⟨chb2, fhb2, shb2, thb2⟩ := bcell hb2; (try have bhb20 := shb2 (w.heap.size) (by go_simp)); (try have bhb21 := shb2 (w.heap.size + 1) (by go_simp)))
          | (go_at_call 55; refine (bond_at t k t2 rfl rfl rfl (hG.below RGl.stable (by exact bel_)) (hT.below RTi.stable (by exact bel_)) hV ht ht2 hlt hrH.out).mono ?_; rintro e w3 ⟨rfl, hb3⟩; obtain ⟨chb3, fhb3, shb3, thb3⟩ := bcell hb3; (try have bhb30 := shb3 (w.heap.size) (by go_simp)); (try have bhb31 := shb3 (w.heap.size + 1) (by go_simp))))
        go_roundg (4 - (k + 1))
        case measure => omega
        case rel => exact ⟨k + 1, by omega, by go_num, by rw [hnx.out], by exact bel_, by go_simp, by go_simp, by go_simp, by go_simp, by go_simp⟩
    · obtain rfl : k = 4 := by omega
      go_wp2
      go_ret
      exact ⟨rfl, hbw⟩
theorem binding_at {G T A : Option Addr} {n cg m ct q ca : Nat} {gs : List Gl} {ts : List Ti} {xs : List Pl} {x y ti r : Int} (t : Nat) {w : World} (h0 : ti = t) (hG : RdSl 2 RGl w G n gs) (hT : RdSl 2 RTi w T m ts) (hA : RdSl 3 RPl w A q xs) (hV : Valid gs ts xs) (ht : t < ts.length) (hx : -900 ≤ x ∧ x ≤ 900) (hy : -900 ≤ y ∧ y ≤ 900) (hr : bindN gs ts xs x y t 4 = r) :
    Calls Tryz.prog 59 #[.agg #[.slice G n cg, .slice T m ct], .agg #[.int .i64 x, .int .i64 y], .int .i64 ti, .func (.func 60) #[.agg #[.slice A q ca]] #[]] w fun e w' => e = .returned (.int .i64 r) ∧ Below w.heap.size w w' := by
  subst h0 hr; exact binding_any G T A n cg m ct q ca gs ts xs x y t w hG hT hA hV ht hx hy
set_option maxRecDepth 100000 in
set_option maxHeartbeats 2000000 in
theorem l06Binding_any (p pa : Nat) (gs : List Gl) (ts : List Ti) (xs : List Pl) (x y : Int) (t : Nat) (w : World) (hs : SetAt w p 0 gs ts) (ha : AsmAt w pa 0 xs) (hV : Valid gs ts xs) (ht : t < ts.length) (hx : -900 ≤ x ∧ x ≤ 900) (hy : -900 ≤ y ∧ y ≤ 900) :
    Calls Tryz.prog 46 #[.pointer (some ⟨p, 0, none⟩), .pointer (some ⟨pa, 0, none⟩), .agg #[.int .i64 x, .int .i64 y], .int .i64 (t : Int)] w fun e w' => e = .returned (.int .i64 (bindN gs ts xs x y t 4)) ∧ Below w.heap.size w w' := by
  
  go_enter Tryz.func46, Tryz.ntmps46
  go_wp2
  go_loopg [10, 9] 4 (fun r c s wr => ∃ k : Nat, k + r = 4 ∧ c = .int .i64 (k : Int) ∧ s = .int .i64 (bindN gs ts xs x y t k) ∧ Below w.heap.size w wr ∧ wr.cell? ⟨w.heap.size, 0, none⟩ = some (.int .i64 x) ∧ wr.cell? ⟨w.heap.size, 1, none⟩ = some (.int .i64 y) ∧ w.heap.size < wr.heap.size)
  case atStart => exact ⟨0, by omega, rfl, rfl, by exact bel_, by go_simp, by go_simp, by simp⟩
  case round =>
    obtain ⟨k, hk, rfl, rfl, hbw, y2, y3, hsz⟩ := hrel
    have hbd := bindN_bound hV x y t k
    by_cases hlt : k < 4
    · have hltI : (k : Int) < 4 := by omega
      have hk0 : (0 : Int) ≤ (k : Int) := by omega
      obtain ⟨S, hS⟩ : ∃ S, bindN gs ts xs x y t k = S := ⟨_, rfl⟩
      rw [hS] at hbd
      rw [hS]
      have hSH := Lib.hid hS
      clear hS
      have hb0 : 0 ≤ S := hbd.1
      have hb1' : S ≤ 1000 := by have := hbd.2; omega
      clear hbd
      rcases atI_cases hV (stepX x k) (stepY y k) with ⟨_, hat⟩ | ⟨i, t2, e, _, _, _, ht2, hat⟩
      · have hatH := Lib.hid hat
        have hnx := Lib.hid (bindN_succ_none hSH.out hat)
        clear hat
        go_wp2_with (first
          | (go_at_call 75; refine (l01Step_any _ _ _ _ ⟨by omega, by omega⟩ ⟨by omega, by omega⟩ ⟨by omega, by omega⟩).mono ?_; rintro e w1 ⟨rfl, hb1⟩; obtain ⟨chb1, fhb1, shb1, thb1⟩ := bcell hb1; (try have bhb10 := shb1 (w.heap.size) (by go_simp)))
          | (go_at_call 69; refine (l03At_any _ gs ts xs _ _ _ _ (ha.below (by exact bel_)) hV hatH.out).mono ?_; rintro e w2 ⟨rfl, hb2⟩; obtain ⟨chb2, fhb2, shb2, thb2⟩ := bcell hb2; (try have bhb20 := shb2 (w.heap.size) (by go_simp))))
        go_roundg (4 - (k + 1))
        case measure => omega
        case rel => exact ⟨k + 1, by omega, by go_num, by rw [hnx.out], by exact bel_, by go_simp, by go_simp, by go_simp⟩
      · obtain ⟨r, hr⟩ : ∃ r, bondI gs ts t k t2 = r := ⟨_, rfl⟩
        have hatH := Lib.hid hat
        have hrH := Lib.hid hr
        have hnx := Lib.hid (bindN_succ_some hSH.out hat hr)
        have hr0 : 0 ≤ r := by rw [← hr]; exact bondI_nonneg hV _ _ _
        have hr4 : r ≤ 4 := by rw [← hr]; exact bondI_le hV _ _ _
        have ht20 : (0 : Int) ≤ (t2 : Int) := by omega
        clear hat hr
        go_wp2_with (first
          | (go_at_call 75; refine (l01Step_any _ _ _ _ ⟨by omega, by omega⟩ ⟨by omega, by omega⟩ ⟨by omega, by omega⟩).mono ?_; rintro e w1 ⟨rfl, hb1⟩; obtain ⟨chb1, fhb1, shb1, thb1⟩ := bcell hb1; (try have bhb10 := shb1 (w.heap.size) (by go_simp)))
          | (go_at_call 69; refine (l03At_any _ gs ts xs _ _ _ _ (ha.below (by exact bel_)) hV hatH.out).mono ?_; rintro e w2 ⟨rfl, hb2⟩; obtain ⟨chb2, fhb2, shb2, thb2⟩ := bcell hb2; (try have bhb20 := shb2 (w.heap.size) (by go_simp)))
          | (go_at_call 73; refine (l02Bond_at t t2 rfl rfl (hs.below (by exact bel_)) hV ht ht2 hlt hrH.out).mono ?_; rintro e w3 ⟨rfl, hb3⟩; obtain ⟨chb3, fhb3, shb3, thb3⟩ := bcell hb3; (try have bhb30 := shb3 (w.heap.size) (by go_simp))))
        go_roundg (4 - (k + 1))
        case measure => omega
        case rel => exact ⟨k + 1, by omega, by go_num, by rw [hnx.out], by exact bel_, by go_simp, by go_simp, by go_simp⟩
    · obtain rfl : k = 4 := by omega
      go_wp2
      go_ret
      exact ⟨rfl, hbw⟩
theorem l06Binding_at {p pa : Nat} {gs : List Gl} {ts : List Ti} {xs : List Pl} {x y ti r : Int} (t : Nat) {w : World} (h0 : ti = t) (hs : SetAt w p 0 gs ts) (ha : AsmAt w pa 0 xs) (hV : Valid gs ts xs) (ht : t < ts.length) (hx : -900 ≤ x ∧ x ≤ 900) (hy : -900 ≤ y ∧ y ≤ 900) (hr : bindN gs ts xs x y t 4 = r) :
    Calls Tryz.prog 46 #[.pointer (some ⟨p, 0, none⟩), .pointer (some ⟨pa, 0, none⟩), .agg #[.int .i64 x, .int .i64 y], .int .i64 ti] w fun e w' => e = .returned (.int .i64 r) ∧ Below w.heap.size w w' := by
  subst h0 hr; exact l06Binding_any p pa gs ts xs x y t w hs ha hV ht hx hy
end Go.Proofs.YtmpmokefgdjnkaaGreat
/- Plain facts: the least of a list; what the bonds of tiles that are not of the seed exceed the temperature by. -/


namespace Go.Proofs.YtmpmokefgdjnkaaGreat
/-- the least of a list, 0 of none -/
def listMin : List Int → Int
  | [] => 0
  | a :: l => l.foldl min a
theorem listMin_one (a : Int) : listMin [a] = a := rfl
theorem listMin_snoc {l : List Int} (h : l ≠ []) (a : Int) : listMin (l ++ [a]) = min (listMin l) a := by
  cases l with
  | nil => exact (h rfl).elim
  | cons b l => simp [listMin, List.foldl_append]
/-- by how much tile e binds above the temperature -/
noncomputable def overT (gs : List Gl) (ts : List Ti) (ys : List Pl) (t : Int) (e : Pl) : Int := bindN gs ts ys e.x e.y e.t.toNat 4 - t
noncomputable def slackL (gs : List Gl) (ts : List Ti) (xs ys : List Pl) (t : Int) : Nat → List Int
  | 0 => []
  | k + 1 => slackL gs ts xs ys t k ++ match ys[k]? with
    | some e => if seedB xs e = true then [] else [overT gs ts ys t e]
    | none => []
section
variable {gs : List Gl} {ts : List Ti} {xs ys : List Pl} {t : Int} {k : Nat} {e : Pl}
theorem slackL_seed (he : ys[k]? = some e) (h : seedB xs e = true) : slackL gs ts xs ys t (k + 1) = slackL gs ts xs ys t k := by simp only [slackL, he]; rw [if_pos h, List.append_nil]
theorem slackL_soft (he : ys[k]? = some e) (h : seedB xs e = false) : slackL gs ts xs ys t (k + 1) = slackL gs ts xs ys t k ++ [overT gs ts ys t e] := by simp only [slackL, he]; rw [if_neg (by rw [h]; decide)]
theorem slackL_len (gs : List Gl) (ts : List Ti) (xs ys : List Pl) (t : Int) : ∀ k, (slackL gs ts xs ys t k).length ≤ k
  | 0 => Nat.le_refl _
  | k + 1 => by
    have := slackL_len gs ts xs ys t k
    simp only [slackL, List.length_append]
    split
    · split <;> simp <;> omega
    · simp; omega
theorem overT_bound (hV : Valid gs ts ys) (e : Pl) : -t ≤ overT gs ts ys t e ∧ overT gs ts ys t e ≤ 16 - t := by
  have := bindN_bound hV e.x e.y e.t.toNat 4
  unfold overT
  omega
theorem slackL_bound (hV : Valid gs ts ys) : ∀ k, ∀ v ∈ slackL gs ts xs ys t k, -t ≤ v ∧ v ≤ 16 - t
  | 0 => fun v hv => by simp [slackL] at hv
  | k + 1 => fun v hv => by
    simp only [slackL, List.mem_append] at hv
    rcases hv with hv | hv
    · exact slackL_bound hV k v hv
    · split at hv
      · split at hv
        · simp at hv
        · simp at hv
          subst hv
          exact overT_bound hV _
      · simp at hv
end
noncomputable def slackR (gs : List Gl) (ts : List Ti) (xs : List Pl) (t : Int) (ys : List Pl) : Int × Int := if overI gs ts xs t ys ≠ 0 then (0, overI gs ts xs t ys) else if (slackL gs ts xs ys t ys.length).length = 0 then (0, 3) else (listMin (slackL gs ts xs ys t ys.length), 0)
/-- the places of loose tiles among the first k -/
noncomputable def looseL (gs : List Gl) (ts : List Ti) (xs ys : List Pl) (t : Int) : Nat → List Nat
  | 0 => []
  | k + 1 => looseL gs ts xs ys t k ++ match ys[k]? with
    | some e => if seedB xs e = false ∧ overT gs ts ys t e < 0 then [k] else []
    | none => []
section
variable {gs : List Gl} {ts : List Ti} {xs ys : List Pl} {t : Int} {k : Nat} {e : Pl}
theorem looseL_yes (he : ys[k]? = some e) (h : seedB xs e = false) (h2 : overT gs ts ys t e < 0) : looseL gs ts xs ys t (k + 1) = looseL gs ts xs ys t k ++ [k] := by simp only [looseL, he]; rw [if_pos ⟨h, h2⟩]
theorem looseL_no (he : ys[k]? = some e) (h : ¬ (seedB xs e = false ∧ overT gs ts ys t e < 0)) : looseL gs ts xs ys t (k + 1) = looseL gs ts xs ys t k := by simp only [looseL, he]; rw [if_neg h, List.append_nil]
theorem looseL_len (gs : List Gl) (ts : List Ti) (xs ys : List Pl) (t : Int) : ∀ k, (looseL gs ts xs ys t k).length ≤ k
  | 0 => Nat.le_refl _
  | k + 1 => by
    have := looseL_len gs ts xs ys t k
    simp only [looseL, List.length_append]
    split
    · split <;> simp <;> omega
    · simp; omega
end
end Go.Proofs.YtmpmokefgdjnkaaGreat
/- Walks: loose tiles, the program's. -/



namespace Go.Proofs.YtmpmokefgdjnkaaGreat
open Go.RowKit Go.Shelf
attribute [local go_sem] BelowBy.cell BelowBy.cell_drew stillUpon givesUpon BelowBy.cell_drew2 BelowBy.cell_drew3

/-- a loose tile -/
noncomputable def looseB (gs : List Gl) (ts : List Ti) (xs ys : List Pl) (t : Int) (e : Pl) : Bool := !seedB xs e && decide (overT gs ts ys t e < 0)
theorem looseB_seed {gs : List Gl} {ts : List Ti} {xs ys : List Pl} {t : Int} {e : Pl} (h : seedB xs e = true) : false = looseB gs ts xs ys t e := by unfold looseB; rw [h]; rfl
theorem looseB_soft {gs : List Gl} {ts : List Ti} {xs ys : List Pl} {t r : Int} {e : Pl} (h : seedB xs e = false) (h2 : overT gs ts ys t e = r - t) : decide (r < t) = looseB gs ts xs ys t e := by
  unfold looseB; rw [h, h2]
  by_cases hh : r < t
  · rw [decide_eq_true hh, decide_eq_true (show r - t < 0 by omega)]; rfl
  · rw [decide_eq_false hh, decide_eq_false (show ¬ r - t < 0 by omega)]; rfl
noncomputable def looseN (gs : List Gl) (ts : List Ti) (xs ys : List Pl) (t : Int) (k : Nat) : List Int := (looseL gs ts xs ys t k).map (fun i : Nat => (i : Int))
section
variable {gs : List Gl} {ts : List Ti} {xs ys : List Pl} {t : Int} {k : Nat} {e : Pl}
theorem looseN_yes (he : ys[k]? = some e) (h : looseB gs ts xs ys t e = true) : looseN gs ts xs ys t (k + 1) = looseN gs ts xs ys t k ++ [(k : Int)] := by
  unfold looseB at h
  simp only [Bool.and_eq_true, Bool.not_eq_true', decide_eq_true_eq] at h
  unfold looseN; rw [looseL_yes he h.1 h.2, List.map_append]; rfl
theorem looseN_no (he : ys[k]? = some e) (h : looseB gs ts xs ys t e = false) : looseN gs ts xs ys t (k + 1) = looseN gs ts xs ys t k := by
  unfold looseN; rw [looseL_no he (fun h' => ?_)]
  unfold looseB at h
  rw [h'.1, decide_eq_true h'.2] at h
  cases h
theorem looseN_len (gs : List Gl) (ts : List Ti) (xs ys : List Pl) (t : Int) (k : Nat) : (looseN gs ts xs ys t k).length ≤ k := by
  unfold looseN; rw [List.length_map]; exact looseL_len gs ts xs ys t k
end
noncomputable def looseR (gs : List Gl) (ts : List Ti) (xs : List Pl) (t : Int) (ys : List Pl) : List Int × Int := if overI gs ts xs t ys ≠ 0 then ([], overI gs ts xs t ys) else (looseN gs ts xs ys t ys.length, 0)
section
variable {gs : List Gl} {ts : List Ti} {xs ys : List Pl} {t : Int}
theorem looseR_no {r : Int} (h : overI gs ts xs t ys = r) (h0 : r ≠ 0) : (([], r) : List Int × Int) = looseR gs ts xs t ys := by unfold looseR; rw [h, if_pos h0]
theorem looseR_yes (h : overI gs ts xs t ys = 0) : ((looseN gs ts xs ys t ys.length, 0) : List Int × Int) = looseR gs ts xs t ys := by unfold looseR; rw [h, if_neg (by decide)]
theorem looseR_len (gs : List Gl) (ts : List Ti) (xs : List Pl) (t : Int) (ys : List Pl) : (looseR gs ts xs t ys).1.length ≤ 1073741824 := by
  unfold looseR
  split
  · simp
  · rename_i h
    have h0 : overI gs ts xs t ys = 0 := by simpa using h
    have := (valid_of (growB_true (overI_zero h0).1).2).len
    exact Nat.le_trans (looseN_len gs ts xs ys t ys.length) (by omega)
end
end Go.Proofs.YtmpmokefgdjnkaaGreat
/- Walks: the name at a tile's side; what carries. -/

namespace Go.Proofs.YtmpmokefgdjnkaaGreat
open Go.RowKit Go.Shelf
attribute [local go_sem] BelowBy.cell BelowBy.cell_drew stillUpon givesUpon BelowBy.cell_drew2 BelowBy.cell_drew3

def sideV (ts : List Ti) (t d : Nat) : Int := match ts[t]? with
  | some e => (e.sides[d]?).getD 0
  | none => 0
def nameI (gs : List Gl) (v : Int) : ByteArray := if v = 0 then ByteArray.empty else match gs[v.toNat - 1]? with
  | some g => g.name
  | none => ByteArray.empty
/-- the name of the glue at a side of the tile at a point -/
noncomputable def gluedS (gs : List Gl) (ts : List Ti) (ys : List Pl) (x y : Int) (d : Nat) : ByteArray := if atI ys x y < 0 then ByteArray.empty else nameI gs (sideV ts (atI ys x y).toNat d)
def c1S : ByteArray := { data := #[99, 49] }
theorem c1_list : c1S.toList = [99, 49] := by first | rfl | decide | (unfold c1S; go_simp) | simp [c1S]
theorem c1_ne : ByteArray.empty ≠ c1S := by
  intro h
  have := congrArg ByteArray.size h
  simp [c1S, ByteArray.size] at this
theorem gluedS_none {gs : List Gl} {ts : List Ti} {ys : List Pl} {x y : Int} {d : Nat} (h : atI ys x y = -1) : gluedS gs ts ys x y d = ByteArray.empty := by unfold gluedS; rw [h, if_pos (by decide)]
theorem gluedS_some {gs : List Gl} {ts : List Ti} {ys : List Pl} {x y v : Int} {t d : Nat} {e : Ti} (h : atI ys x y = (t : Int)) (he : ts[t]? = some e) (hv : e.sides[d]? = some v) : gluedS gs ts ys x y d = nameI gs v := by
  unfold gluedS sideV
  rw [h, if_neg (by omega)]
  have : ((t : Nat) : Int).toNat = t := by omega
  rw [this, he]
  simp only [hv, Option.getD_some]
theorem nameI_zero (gs : List Gl) : nameI gs 0 = ByteArray.empty := by unfold nameI; rw [if_pos rfl]
theorem nameI_succ {gs : List Gl} {k : Nat} {g : Gl} {v : Int} (hv : v = (k : Int) + 1) (hk : gs[k]? = some g) : nameI gs v = g.name := by
  unfold nameI
  rw [if_neg (by omega), show v.toNat - 1 = k by omega, hk]
theorem glued_iff {gs : List Gl} {ts : List Ti} {ys : List Pl} {x y v : Int} {t d : Nat} {e : Ti} (hset : validSetB gs ts = true) (hV : Valid gs ts ys) (h : atI ys x y = (t : Int)) (he : ts[t]? = some e) (hv : e.sides[d]? = some v) :
    gluedS gs ts ys x y d = c1S ↔ 0 < glueI gs c1S ∧ v = (glueI gs c1S : Int) := by
  rw [gluedS_some h he hv]
  obtain ⟨g, rfl, hg⟩ := hV.side t e d v he hv
  cases g with
  | zero =>
    rw [show ((0 : Nat) : Int) = 0 from rfl, nameI_zero]
    exact ⟨fun h => (c1_ne h).elim, fun h => by omega⟩
  | succ k =>
    have hk := List.getElem?_eq_getElem (l := gs) (i := k) (by omega)
    rw [nameI_succ (by omega) hk, ← glueI_iff hset hk]
    omega
open Classical in
/-- how many of the first k places carry -/
noncomputable def carK (gs : List Gl) (ts : List Ti) (ys : List Pl) (row : Int) : Nat → Nat
  | 0 => 0
  | k + 1 => carK gs ts ys row k + if gluedS gs ts ys (k : Int) row 3 = c1S then 1 else 0
theorem carK_yes {gs : List Gl} {ts : List Ti} {ys : List Pl} {row : Int} {k : Nat} (h : gluedS gs ts ys (k : Int) row 3 = c1S) : carK gs ts ys row (k + 1) = carK gs ts ys row k + 1 := by simp only [carK]; rw [if_pos h]
theorem carK_no {gs : List Gl} {ts : List Ti} {ys : List Pl} {row : Int} {k : Nat} (h : ¬ gluedS gs ts ys (k : Int) row 3 = c1S) : carK gs ts ys row (k + 1) = carK gs ts ys row k := by simp only [carK]; rw [if_neg h]; rfl
theorem carK_le (gs : List Gl) (ts : List Ti) (ys : List Pl) (row : Int) : ∀ k, carK gs ts ys row k ≤ k
  | 0 => Nat.le_refl _
  | k + 1 => by
    have := carK_le gs ts ys row k
    simp only [carK]
    split <;> omega
noncomputable def carR (gs : List Gl) (ts : List Ti) (xs : List Pl) (t : Int) (ys : List Pl) (row digits : Int) : Int × Int := if growB gs ts xs t ys = false then (0, 1) else if (inB digits 1 8 && inB row 0 60) = false then (0, 2) else ((carK gs ts ys row digits.toNat : Int), 0)
section
variable {gs : List Gl} {ts : List Ti} {xs ys : List Pl} {t row digits : Int}
theorem carR_no (h : growB gs ts xs t ys = false) : ((0, 1) : Int × Int) = carR gs ts xs t ys row digits := by unfold carR; rw [if_pos h]
theorem carR_range (h : growB gs ts xs t ys = true) (h2 : (inB digits 1 8 && inB row 0 60) = false) : ((0, 2) : Int × Int) = carR gs ts xs t ys row digits := by unfold carR; rw [if_neg (by rw [h]; decide), if_pos h2]
theorem carR_yes {D : Nat} (h : growB gs ts xs t ys = true) (h1 : inB (D : Int) 1 8 = true) (h2 : inB row 0 60 = true) : (((carK gs ts ys row D : Int), 0) : Int × Int) = carR gs ts xs t ys row (D : Int) := by
  unfold carR; rw [if_neg (by rw [h]; decide), if_neg (by rw [h1, h2]; decide)]; simp
end
theorem inB_nat {x lo hi : Int} (h : inB x lo hi = true) (h0 : 0 ≤ lo) : ∃ k : Nat, x = k ∧ lo ≤ (k : Int) ∧ (k : Int) ≤ hi := by
  have := inB_true.1 h
  exact ⟨x.toNat, by omega, by omega, by omega⟩
end Go.Proofs.YtmpmokefgdjnkaaGreat
/- Walks: the slack, the program's. -/



namespace Go.Proofs.YtmpmokefgdjnkaaGreat
open Go.RowKit Go.Shelf
attribute [local go_sem] BelowBy.cell BelowBy.cell_drew stillUpon givesUpon BelowBy.cell_drew2 BelowBy.cell_drew3

theorem listMin_take {l : List Int} {k : Nat} {x : Int} (hk : 0 < k) (hx : l[k]? = some x) : listMin (l.take (k + 1)) = min (listMin (l.take k)) x := by
  obtain ⟨hkl, rfl⟩ := List.getElem?_eq_some_iff.1 hx
  rw [List.take_succ_eq_append_getElem hkl]
  exact listMin_snoc (fun h => by
    have := congrArg List.length h
    rw [List.length_take] at this
    simp only [List.length_nil] at this
    omega) _
set_option maxHeartbeats 1000000 in
theorem Min_any (A : Option Addr) (n c : Nat) (l : List Int) (w : World) (h : RdSl 1 RInt w A n l) (hn : 0 < n) (hm : n ≤ 1073741824) :
    Calls Tryz.prog 61 #[.slice A n c] w fun e w' => e = .returned (.int .i64 (listMin l)) ∧ w = w' := by
  obtain ⟨b, o, rfl, hb, hc⟩ := h.ptr hn
  have hl := h.len
  have hH := Lib.hid h
  have hcH := Lib.hid hc
  obtain ⟨x0, hx0⟩ := h.get hn
  have c0 := hc 0 x0 hx0
  unfold RInt at c0
  simp only [Nat.zero_mul, Nat.add_zero] at c0
  have hn1 : ¬ (n : Int) < 1 := by omega
  have hst := Lib.hid (show x0 = listMin (l.take 1) by
    cases l with
    | nil => simp at hx0
    | cons a l => simp at hx0; subst hx0; rfl)
  clear h hc hx0
  go_enter Tryz.func61, Tryz.ntmps61
  go_wp2
  go_loopg [4, 3] (n - 1) (fun gk i v wr => ∃ k : Nat, k + gk = n ∧ 1 ≤ k ∧ i = .int .i64 (k : Int) ∧ v = .int .i64 (listMin (l.take k)) ∧ w = wr)
  case atStart => exact ⟨1, by omega, by omega, rfl, by rw [hst.out], rfl⟩
  case round =>
    obtain ⟨k, hk, hk1, rfl, rfl, rfl⟩ := hrel
    by_cases hkn : k < n
    · obtain ⟨x, hx⟩ := hH.out.get hkn
      have cx := hcH.out k x hx
      unfold RInt at cx
      simp only [Nat.mul_one] at cx
      have hmn := Lib.hid (listMin_take (by omega) hx)
      obtain ⟨v, hv⟩ : ∃ v, listMin (l.take k) = v := ⟨_, rfl⟩
      rw [hv] at hmn ⊢
      clear hx hv
      go_wp2
      go_roundg (n - (k + 1))
      case measure => omega
      case rel => exact ⟨k + 1, by omega, by omega, by go_num, by rw [hmn.out], rfl⟩
    · obtain rfl : k = n := by omega
      have ht := Lib.hid (show l.take k = l from List.take_of_length_le (by omega))
      go_wp2
      go_ret
      exact ⟨by rw [ht.out]; rfl, rfl⟩
def SlkRes (w : World) (L : List Int) (e : Ending) (w' : World) : Prop := e = .returned (.tuple #[.int .i64 (listMin L), .bool (!L.isEmpty)]) ∧ Below w.heap.size w w'
theorem SlkRes.of {w w' : World} {L : List Int} {v : Int} {b : Bool} (h1 : v = listMin L) (h2 : b = !L.isEmpty) (hb : Below w.heap.size w w') : SlkRes w L (.returned (.tuple #[.int .i64 v, .bool b])) w' := by
  subst h1; subst h2; exact ⟨rfl, hb⟩
set_option maxRecDepth 100000 in
set_option maxHeartbeats 4000000 in
theorem slack_any {G T A C : Option Addr} {n cg m ct q ca k cc : Nat} {gs : List Gl} {ts : List Ti} {xs ys : List Pl} {t : Int} {w : World} (h : SA w G n T m A q gs ts xs) (hV : Valid gs ts xs) (h2 : SA w G n T m C k gs ts ys) (hVy : Valid gs ts ys) (ht : 1 ≤ t ∧ t ≤ 16) :
    Calls Tryz.prog 32 #[.agg #[.slice G n cg, .slice T m ct, .slice A q ca, .int .i64 t], .agg #[.slice C k cc]] w (SlkRes w (slackL gs ts xs ys t k)) := by
  obtain ⟨i0, hi, hz0, hz1, hz2⟩ := info_parts infoI
  have hS := Lib.hid h
  have hC := Lib.hid h2
  have hk5 : k ≤ 500 := by rw [← h2.A.len]; exact hVy.len
  clear h h2
  go_enter Tryz.func32, Tryz.ntmps32
  go_wp2
  go_loopg [12, 6] k (fun gk i v wr => ∃ j : Nat, j + gk = k ∧ i = .int .i64 (j : Int) ∧ Hid (wr.ownsRow (w.heap.size + 2) 2 1 v (slackL gs ts xs ys t j).length ((slackL gs ts xs ys t j).map (Value.int .i64))) ∧ Hid (Below w.heap.size w wr) ∧ wr.cell? ⟨w.heap.size, 0, none⟩ = some (.slice G n cg) ∧ wr.cell? ⟨w.heap.size, 1, none⟩ = some (.slice T m ct) ∧ wr.cell? ⟨w.heap.size, 2, none⟩ = some (.slice A q ca) ∧ wr.cell? ⟨w.heap.size, 3, none⟩ = some (.int .i64 t) ∧ wr.cell? ⟨w.heap.size + 1, 0, none⟩ = some (.slice C k cc) ∧ w.heap.size + 2 ≤ wr.heap.size)
  case atStart => exact ⟨0, by omega, rfl, Lib.hid (World.ownsRow_nil _ _ _ _), Lib.hid (by exact bel_), by go_simp, by go_simp, by go_simp, by go_simp, by go_simp, by simp⟩
  case round =>
    obtain ⟨j, hj, rfl, hrow, hbw, x0, x1, x2, x3, x4, hsz⟩ := hrel
    obtain ⟨A1, c1, hv1, hrd⟩ := rdI_of hrow.out
    subst hv1
    have hrdH := Lib.hid hrd
    clear hrd
    have l0 : w.heap.size < wr.heap.size := by omega
    have l1 : w.heap.size + 1 < wr.heap.size := by omega
    by_cases hjk : j < k
    · have hCw := hC.out.below hbw.out
      obtain ⟨e, he⟩ := hCw.A.get hjk
      obtain ⟨b, ob, hCe, hb, hc⟩ := hCw.A.ptr (by omega)
      obtain ⟨d0, d1, d2⟩ := hc j e he
      obtain ⟨tn, htn, htl⟩ := hVy.ti j e he
      have hpt := hVy.pt j e he
      have heH := Lib.hid he
      have hle := slackL_len gs ts xs ys t j
      obtain ⟨N, hN⟩ : ∃ N, (slackL gs ts xs ys t j).length = N := ⟨_, rfl⟩
      have hNH := Lib.hid hN
      rw [hN] at hrow hle ⊢
      have hSw := Lib.hid (hS.out.A.below RPl.stable hbw.out)
      have hCwH := Lib.hid hCw
      obtain ⟨r, hr⟩ : ∃ r, bindN gs ts ys e.x e.y tn 4 = r := ⟨_, rfl⟩
      have hrH := Lib.hid hr
      have hbd := bindN_bound hVy e.x e.y tn 4
      rw [hr] at hbd
      have hov := Lib.hid (show overT gs ts ys t e = r - t by unfold overT; rw [htn, show ((tn : Nat) : Int).toNat = tn by omega, hr])
      have htnH := Lib.hid htn
      clear hc he hCw hN hr htn
      cases hsd : seedB xs e
      all_goals
        have hsdH := Lib.hid hsd
        subst hCe
        go_wp2_with fail
        refine (isSeedTile_at (hSw.out.below RPl.stable (by exact bel_)) hV hsdH.out).mono ?_
        rintro e' w2 ⟨rfl, hb2⟩
        have hb2' : Below wr.heap.size wr w2 := by exact bel_
        have hb2H := Lib.hid hb2'
        have hB2 := Lib.hid (hbw.out.trans (hb2'.mono hbw.out.size))
        have hrow' := Lib.hid (ownsRow_below hrow.out hb2')
        have z0 := (hb2'.cell (p := ⟨w.heap.size, 0, none⟩) l0).trans x0
        have z1 := (hb2'.cell (p := ⟨w.heap.size, 1, none⟩) l0).trans x1
        have z2 := (hb2'.cell (p := ⟨w.heap.size, 2, none⟩) l0).trans x2
        have z3 := (hb2'.cell (p := ⟨w.heap.size, 3, none⟩) l0).trans x3
        have z4 := (hb2'.cell (p := ⟨w.heap.size + 1, 0, none⟩) l1).trans x4
        have s2 := hb2'.size
        have t0 := (hb2.cell (p := ⟨wr.heap.size, 0, none⟩) (by simp)).trans (show _ = some (Value.int .i64 e.x) by go_simp)
        have t1 := (hb2.cell (p := ⟨wr.heap.size, 1, none⟩) (by simp)).trans (show _ = some (Value.int .i64 e.y) by go_simp)
        have t2 := (hb2.cell (p := ⟨wr.heap.size, 2, none⟩) (by simp)).trans (show _ = some (Value.int .i64 e.t) by go_simp)
        have t3 : wr.heap.size < w2.heap.size := by have := hb2.size; simp at this; omega
        have n0 : w.heap.size < w2.heap.size := by omega
        have n1 : w.heap.size + 1 < w2.heap.size := by omega
        clear hb2' hb2 x0 x1 x2 x3 x4 d0 d1 d2
      · have hs := Lib.hid (slackL_soft (gs := gs) (ts := ts) (t := t) heH.out hsd)
        obtain ⟨ov, hove⟩ : ∃ ov, r - t = ov := ⟨_, rfl⟩
        rw [hove] at hov
        have hwv : IntKind.i64.wrap ov = ov := wrap_in (by omega) (by omega)
        clear hsd
        go_wp2
        refine wp_region_ord [(0, .q), (1, .q), (2, .q), (3, .q), (4, .q), (5, .q), (6, .q), (7, .q), (10, .q), (11, .q), (8, .g), (9, .g), (12, .q), (13, .g), (14, .b), (15, .q)] (by kernel_rfl) (by kernel_rfl) ?_
        simp only [pick, List.filterMap_cons, List.filterMap_nil, List.getElem?_toArray, List.getElem?_cons_zero, List.getElem?_cons_succ, Option.map_some]
        repeat (first
          | ((with_reducible refine wpD_p (fun K hK => ?_)); go_simp; refine hK _ ?_; clear hK K)
          | ((with_reducible refine wpD_q (fun K hK => ?_)); go_simp; (first | refine hK _ ?_ | (go_bits; refine hK _ ?_) | (go_bits; go_simp; refine hK _ ?_)); clear hK K)
          | ((with_reducible refine wpD_g (fun K hK => ?_)); go_simp; refine hK _ _ ?_; clear hK K)
          | ((with_reducible refine wpD_g (fun K hK => ?_)); go_simp; refine ⟨Grew.of_alloc _, hK _ _ ?_⟩; clear hK K)
          | ((with_reducible refine wpD_g (fun K hK => ?_)); go_simp; refine ⟨Below.refl _ _, hK _ _ ?_⟩; clear hK K))
        with_reducible refine wpD_g (fun K hK => ?_)
        go_simp
        refine (binding_at tn htnH.out ((hCwH.out.G.below RGl.stable hb2H.out).below RGl.stable (by exact bel_)) ((hCwH.out.T.below RTi.stable hb2H.out).below RTi.stable (by exact bel_)) ((hCwH.out.A.below RPl.stable hb2H.out).below RPl.stable (by exact bel_)) hVy htl ⟨by omega, by omega⟩ ⟨by omega, by omega⟩ hrH.out).mono ?_
        rintro e' w3 ⟨rfl, hb3⟩
        refine ⟨_, rfl, hb3, hK _ _ ?_⟩
        clear hK K
        have hb3' : Below w2.heap.size w2 w3 := by exact bel_
        have hB3 := Lib.hid (hB2.out.trans (hb3'.mono (by omega)))
        have hrow3 := Lib.hid (ownsRow_below hrow'.out hb3')
        have u0 := (hb3'.cell (p := ⟨w.heap.size, 0, none⟩) n0).trans z0
        have u1 := (hb3'.cell (p := ⟨w.heap.size, 1, none⟩) n0).trans z1
        have u2 := (hb3'.cell (p := ⟨w.heap.size, 2, none⟩) n0).trans z2
        have u3 := (hb3'.cell (p := ⟨w.heap.size, 3, none⟩) n0).trans z3
        have u4 := (hb3'.cell (p := ⟨w.heap.size + 1, 0, none⟩) n1).trans z4
        have s3 := hb3'.size
        repeat (first
          | ((with_reducible refine wpD_p (fun K hK => ?_)); go_simp; refine hK _ ?_; clear hK K)
          | ((with_reducible refine wpD_q (fun K hK => ?_)); go_simp; (first | refine hK _ ?_ | (go_bits; refine hK _ ?_) | (go_bits; go_simp; refine hK _ ?_)); clear hK K)
          | ((with_reducible refine wpD_g (fun K hK => ?_)); go_simp; refine hK _ _ ?_; clear hK K)
          | ((with_reducible refine wpD_g (fun K hK => ?_)); go_simp; refine ⟨Grew.of_alloc _, hK _ _ ?_⟩; clear hK K))
        refine wpD_append rfl _ _ 58 rfl (w.heap.size + 2) 2 i0 (.int .i64 0) 1 8 Tryz.underlying58 hi hz0 hz1 hz2 rfl (by decide) (.slice A1 N c1) N ((slackL gs ts xs ys t j).map (Value.int .i64)) (by go_simp) (hrow3.out.alloc _) ⟨w3.heap.size, 0, none⟩ 1 1 [.int .i64 ov] (by go_simp) rfl ?hnews (fun x hx => by simp at hx; subst hx; rfl) (by unfold maxLen; omega) (by omega) (by simp; omega) ?_
        case hnews =>
          have := cell_one_new w3 (.int .i64 ov) 2
          simpa using this
        intro v5 w5 hown5 hgrow5
        obtain ⟨A5, c5, rfl⟩ := ownsRow_form hown5
        have hfar : Below (w.heap.size + 2) w3 w5 := ((Below.refl (w.heap.size + 2) w3).alloc (by omega) _).grown hgrow5 (by simp; omega) (fun b' hb' => (hrow3.out.lt b' hb').1)
        have hB5 := Lib.hid (hB3.out.trans (hfar.mono (by omega)))
        have y0 := (hfar.cell (p := ⟨w.heap.size, 0, none⟩) (by simp)).trans u0
        have y1 := (hfar.cell (p := ⟨w.heap.size, 1, none⟩) (by simp)).trans u1
        have y2 := (hfar.cell (p := ⟨w.heap.size, 2, none⟩) (by simp)).trans u2
        have y3 := (hfar.cell (p := ⟨w.heap.size, 3, none⟩) (by simp)).trans u3
        have y4 := (hfar.cell (p := ⟨w.heap.size + 1, 0, none⟩) (by simp)).trans u4
        have s5 := hfar.size
        have hown5H := Lib.hid hown5
        clear hfar hown5 hgrow5 u0 u1 u2 u3 u4 z0 z1 z2 z3 z4
        repeat (first | ((with_reducible refine wpD_p (fun K hK => ?_)); go_simp; refine hK _ ?_; clear hK K) | ((with_reducible refine wpD_q (fun K hK => ?_)); go_simp; (first | refine hK _ ?_ | (go_bits; refine hK _ ?_) | (go_bits; go_simp; refine hK _ ?_)); clear hK K))
        with_reducible refine wpD_nil ?_
        go_wp2
        go_roundg (k - (j + 1))
        case measure => omega
        case rel => exact ⟨j + 1, by omega, by go_num, Lib.hid (by rw [hs.out, List.length_append, List.map_append, hNH.out, hov.out]; exact hown5H.out), hB5, y0, y1, y2, y3, y4, by omega⟩
      · have hs := Lib.hid (slackL_seed (gs := gs) (ts := ts) (t := t) heH.out hsd)
        clear hsd
        go_wp2
        go_roundg (k - (j + 1))
        case measure => omega
        case rel => exact ⟨j + 1, by omega, by go_num, Lib.hid (by rw [hs.out, hNH.out]; exact hrow'.out), hB2, z0, z1, z2, z3, z4, by omega⟩
    · obtain rfl : j = k := by omega
      have hml := slackL_len gs ts xs ys t j
      obtain ⟨L, hL⟩ : ∃ L, slackL gs ts xs ys t j = L := ⟨_, rfl⟩
      have hLr := Lib.hid hL
      rw [hL] at hrdH hml ⊢
      clear hL
      by_cases hL0 : L.length = 0
      · have hLe : L = [] := List.eq_nil_of_length_eq_zero hL0
        subst hLe
        clear hrdH hL0
        go_wp2
        go_ret2
        rw [hLr.out]
        exact SlkRes.of rfl rfl hbw.out
      · have hLp := Lib.hid (show 0 < L.length by omega)
        have hLm := Lib.hid (show L.length ≤ 1073741824 by omega)
        have hL1 : ((L.length : Int) == 0) = false := beq_eq_false_iff_ne.2 (by omega)
        have hne := Lib.hid (show true = !L.isEmpty by cases L with | nil => exact (hL0 rfl).elim | cons a l => rfl)
        go_wp2_with (go_at_call 61; refine (Min_any _ _ _ L _ hrdH.out hLp.out hLm.out).mono ?_; rintro e _ ⟨rfl, rfl⟩)
        go_ret2
        rw [hLr.out]
        exact SlkRes.of rfl hne.out hbw.out
end Go.Proofs.YtmpmokefgdjnkaaGreat
/- Walk: SlackOf, the program's. -/

namespace Go.Proofs.YtmpmokefgdjnkaaGreat
open Go.RowKit Go.Shelf
attribute [local go_sem] BelowBy.cell BelowBy.cell_drew stillUpon givesUpon BelowBy.cell_drew2 BelowBy.cell_drew3

section
variable {gs : List Gl} {ts : List Ti} {xs ys : List Pl} {t : Int}
theorem slackR_no {r : Int} (h : overI gs ts xs t ys = r) (h0 : r ≠ 0) : ((0, r) : Int × Int) = slackR gs ts xs t ys := by unfold slackR; rw [h, if_pos h0]
theorem slackR_none {L : List Int} (h : overI gs ts xs t ys = 0) (hL : slackL gs ts xs ys t ys.length = L) (h2 : L.length = 0) : ((0, 3) : Int × Int) = slackR gs ts xs t ys := by unfold slackR; rw [h, if_neg (by decide), hL, if_pos h2]
theorem slackR_yes {L : List Int} (h : overI gs ts xs t ys = 0) (hL : slackL gs ts xs ys t ys.length = L) (h2 : L.length ≠ 0) : ((listMin L, 0) : Int × Int) = slackR gs ts xs t ys := by unfold slackR; rw [h, if_neg (by decide), hL, if_neg h2]
theorem temp_in (h : tempB t = true) : 1 ≤ t ∧ t ≤ 16 := by
  obtain ⟨tn, rfl, h1, h2⟩ := tempB_true h
  omega
end
end Go.Proofs.YtmpmokefgdjnkaaGreat
/- Walk: SlackOf, the reference's. -/

namespace Go.Proofs.YtmpmokefgdjnkaaGreat
open Go.RowKit Go.Shelf
attribute [local go_sem] BelowBy.cell BelowBy.cell_drew stillUpon givesUpon BelowBy.cell_drew2 BelowBy.cell_drew3

/-- least and found after the first tiles -/
structure LeastOf (L : List Int) (v : Int) (f : Bool) : Prop where
  hf : f = !L.isEmpty
  hv : f = true → v = listMin L
  h0 : f = false → v = 0
theorem LeastOf.nil : LeastOf [] 0 false := ⟨rfl, (fun h => by cases h), fun _ => rfl⟩
theorem LeastOf.take {L : List Int} {v : Int} {f : Bool} (h : LeastOf L v f) {a : Int} (ha : (!f || decide (a < v)) = true) : LeastOf (L ++ [a]) a true := by
  refine ⟨by simp, fun _ => ?_, fun h => by cases h⟩
  cases L with
  | nil => rfl
  | cons b l =>
    have hf : f = true := by rw [h.hf]; rfl
    have hv := h.hv hf
    rw [listMin_snoc (by simp), ← hv]
    simp [hf] at ha
    omega
theorem LeastOf.keep {L : List Int} {v : Int} {f : Bool} (h : LeastOf L v f) {a : Int} (ha : (!f || decide (a < v)) = false) : LeastOf (L ++ [a]) v f := by
  simp only [Bool.or_eq_false_iff, Bool.not_eq_false', decide_eq_false_iff_not] at ha
  obtain ⟨hf, hn⟩ := ha
  have hv := h.hv hf
  have hne : L ≠ [] := fun h0 => by subst h0; rw [h.hf] at hf; cases hf
  refine ⟨by rw [hf]; simp, fun _ => ?_, fun h => by rw [hf] at h; cases h⟩
  rw [listMin_snoc hne, ← hv]
  omega
theorem LeastOf.eq {L : List Int} {v : Int} {f : Bool} (h : LeastOf L v f) : v = listMin L := by
  cases L with
  | nil => exact h.h0 h.hf
  | cons a l => exact h.hv h.hf
set_option maxRecDepth 100000 in
set_option maxHeartbeats 4000000 in
theorem l34Slack_any {p pa : Nat} {gs : List Gl} {ts : List Ti} {xs ys : List Pl} {t : Int} {w : World} (h : SysAt w p 0 gs ts xs t) (hV : Valid gs ts xs) (h2 : AsmAt w pa 0 ys) (hVy : Valid gs ts ys) (ht : 1 ≤ t ∧ t ≤ 16) :
    Calls Tryz.prog 22 #[.pointer (some ⟨p, 0, none⟩), .pointer (some ⟨pa, 0, none⟩)] w fun e w' => ∃ v f, e = .returned (.tuple #[.int .i64 v, .bool f]) ∧ LeastOf (slackL gs ts xs ys t ys.length) v f ∧ Below w.heap.size w w' := by
  
  have hS := Lib.hid h
  have hA := Lib.hid h2
  have lp := h.sat.s.lt
  have la := h2.lt
  have cT := h.temp
  obtain ⟨_, C, k, cc, cq, hR⟩ := id h2
  have hl := hR.len
  have hk5 : k ≤ 500 := by rw [← hl]; exact hVy.len
  rw [hl]
  clear h h2 hR hl
  go_enter Tryz.func22, Tryz.ntmps22
  go_wp2
  go_loopg [8, 6, 7] k (fun gk i v f wr => ∃ (j : Nat) (v0 : Int) (f0 : Bool), j + gk = k ∧ i = .int .i64 (j : Int) ∧ v = .int .i64 v0 ∧ f = .bool f0 ∧ Hid (LeastOf (slackL gs ts xs ys t j) v0 f0) ∧ -16 ≤ v0 ∧ v0 ≤ 16 ∧ Hid (Below w.heap.size w wr))
  case atStart => exact ⟨0, 0, false, by omega, rfl, rfl, rfl, Lib.hid LeastOf.nil, by omega, by omega, Lib.hid (bl_refl _)⟩
  case round =>
    obtain ⟨j, v0, f0, hj, rfl, rfl, rfl, hlo, hv1, hv2, hbw⟩ := hrel
    have hszw := hbw.out.size
    have cqw := (hbw.out.cell (p := ⟨pa, 0, none⟩) la).trans cq
    have cTw := (hbw.out.cell (p := ⟨p, 3, none⟩) lp).trans cT
    have lpw : pa < wr.heap.size := by omega
    have lpp : p < wr.heap.size := by omega
    by_cases hjk : j < k
    · obtain ⟨_, C', k', cc', cq', hR⟩ := hA.out.below hbw.out
      rw [cqw] at cq'
      obtain ⟨rfl, rfl, rfl⟩ : C = C' ∧ k = k' ∧ cc = cc' := by injection cq' with h; injection h with a b c; exact ⟨a, b, c⟩
      obtain ⟨e, he⟩ := hR.get hjk
      obtain ⟨b, ob, hCe, hb, hc⟩ := hR.ptr (by omega)
      obtain ⟨d0, d1, d2⟩ := hc j e he
      obtain ⟨tn, htn, htl⟩ := hVy.ti j e he
      have hpt := hVy.pt j e he
      have heH := Lib.hid he
      have hSw := Lib.hid (hS.out.below hbw.out)
      have hAw := Lib.hid (hA.out.below hbw.out)
      obtain ⟨r, hr⟩ : ∃ r, bindN gs ts ys e.x e.y tn 4 = r := ⟨_, rfl⟩
      have hrH := Lib.hid hr
      have hbd := bindN_bound hVy e.x e.y tn 4
      rw [hr] at hbd
      have hov := Lib.hid (show overT gs ts ys t e = r - t by unfold overT; rw [htn, show ((tn : Nat) : Int).toNat = tn by omega, hr])
      have htnH := Lib.hid htn
      clear hc he hR hr cq' htn
      cases hsd : seedB xs e
      all_goals
        have hsdH := Lib.hid hsd
        subst hCe
        go_wp2_with fail
        refine (l25Seed_at (hSw.out.below (by exact bel_)) hV hsdH.out).mono ?_
        rintro e' w2 ⟨rfl, hb2⟩
        have hb2' : Below wr.heap.size wr w2 := by exact bel_
        have hb2H := Lib.hid hb2'
        have hB2 := Lib.hid (hbw.out.trans (hb2'.mono hszw))
        have s2 := hb2'.size
        have z0 := (hb2'.cell (p := ⟨pa, 0, none⟩) lpw).trans cqw
        have z3 := (hb2'.cell (p := ⟨p, 3, none⟩) lpp).trans cTw
        have t0 := (hb2.cell (p := ⟨wr.heap.size, 0, none⟩) (by simp)).trans (show _ = some (Value.int .i64 e.x) by go_simp)
        have t1 := (hb2.cell (p := ⟨wr.heap.size, 1, none⟩) (by simp)).trans (show _ = some (Value.int .i64 e.y) by go_simp)
        have t2 := (hb2.cell (p := ⟨wr.heap.size, 2, none⟩) (by simp)).trans (show _ = some (Value.int .i64 e.t) by go_simp)
        have t3 : wr.heap.size < w2.heap.size := by have := hb2.size; simp at this; omega
        have n0 : pa < w2.heap.size := by omega
        have n1 : p < w2.heap.size := by omega
        clear hb2' hb2 cqw cTw d0 d1 d2
      · have hs := Lib.hid (slackL_soft (gs := gs) (ts := ts) (t := t) heH.out hsd)
        obtain ⟨ov, hove⟩ : ∃ ov, r - t = ov := ⟨_, rfl⟩
        rw [hove] at hov
        have hwv : IntKind.i64.wrap ov = ov := wrap_in (by omega) (by omega)
        clear hsd
        go_wp2
        refine wp_region_ord [(0, .q), (1, .q), (2, .q), (3, .q), (4, .q), (5, .q), (6, .q), (7, .q), (9, .q), (10, .q), (11, .q), (12, .q), (8, .g), (13, .q), (14, .q)] (by kernel_rfl) (by kernel_rfl) ?_
        simp only [pick, List.filterMap_cons, List.filterMap_nil, List.getElem?_toArray, List.getElem?_cons_zero, List.getElem?_cons_succ, Option.map_some]
        repeat (first
          | ((with_reducible refine wpD_p (fun K hK => ?_)); go_simp; refine hK _ ?_; clear hK K)
          | ((with_reducible refine wpD_q (fun K hK => ?_)); go_simp; (first | refine hK _ ?_ | (go_bits; refine hK _ ?_) | (go_bits; go_simp; refine hK _ ?_)); clear hK K)
          | ((with_reducible refine wpD_g (fun K hK => ?_)); go_simp; refine hK _ _ ?_; clear hK K)
          | ((with_reducible refine wpD_g (fun K hK => ?_)); go_simp; refine ⟨Grew.of_alloc _, hK _ _ ?_⟩; clear hK K)
          | ((with_reducible refine wpD_g (fun K hK => ?_)); go_simp; go_at_call 46; refine (l06Binding_at tn htnH.out ((hSw.out.below hb2H.out).sat.s.below (by exact bel_)) ((hAw.out.below hb2H.out).below (by exact bel_)) hVy htl ⟨by omega, by omega⟩ ⟨by omega, by omega⟩ hrH.out).mono ?_; rintro e w3 ⟨rfl, hb3⟩; refine ⟨_, rfl, hb3, hK _ _ ?_⟩; clear hK K; obtain ⟨chb3, fhb3, shb3, thb3⟩ := bcell hb3; have z5 := (hb3.cell (p := ⟨p, 3, none⟩) n1).trans z3))
        with_reducible refine wpD_nil ?_
        have hB3 := Lib.hid (hB2.out.trans (Below.mono (show Below w2.heap.size w2 w3 by exact bel_) (by omega)))
        cases f0
        · have hst := Lib.hid (hlo.out.take (a := ov) rfl)
          go_wp2
          go_roundg (k - (j + 1))
          case measure => omega
          case rel => exact ⟨j + 1, _, _, by omega, by go_num, rfl, rfl, Lib.hid (by rw [hs.out, hov.out]; exact hst.out), by omega, by omega, hB3⟩
        · by_cases hcm : ov < v0
          · have hst := Lib.hid (hlo.out.take (a := ov) (by simpa using hcm))
            go_wp2
            go_roundg (k - (j + 1))
            case measure => omega
            case rel => exact ⟨j + 1, _, _, by omega, by go_num, rfl, rfl, Lib.hid (by rw [hs.out, hov.out]; exact hst.out), by omega, by omega, hB3⟩
          · have hst := Lib.hid (hlo.out.keep (a := ov) (by simpa using hcm))
            go_wp2
            go_roundg (k - (j + 1))
            case measure => omega
            case rel => exact ⟨j + 1, _, _, by omega, by go_num, rfl, rfl, Lib.hid (by rw [hs.out, hov.out]; exact hst.out), by omega, by omega, hB3⟩
      · have hs := Lib.hid (slackL_seed (gs := gs) (ts := ts) (t := t) heH.out hsd)
        clear hsd
        go_wp2
        go_roundg (k - (j + 1))
        case measure => omega
        case rel => exact ⟨j + 1, _, _, by omega, by go_num, rfl, rfl, Lib.hid (by rw [hs.out]; exact hlo.out), by omega, by omega, hB2⟩
    · obtain rfl : j = k := by omega
      go_wp2
      go_ret2
      exact ⟨v0, f0, rfl, hlo.out, hbw.out⟩
end Go.Proofs.YtmpmokefgdjnkaaGreat
