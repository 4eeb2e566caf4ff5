import Derived.Test.YtkiamhpapkgboaaDoorMr4
set_option linter.unusedSimpArgs false
set_option linter.unusedVariables false
/- Walks: the reference's system of a maker and a row; MachineSystem of the reference. -/

namespace Go.Proofs.YtkiamhpapkgboaaDoor
open Go.RowKit Go.Shelf
attribute [local go_sem] BelowBy.cell BelowBy.cell_drew stillUpon givesUpon

set_option maxRecDepth 100000 in
set_option maxHeartbeats 8000000 in
theorem system_any (b g T n rc : Nat) (A1 B2 : Option Addr) (ng nt c1 c2 : Nat) (w : World) (hb : b < w.heap.size) (z0 : w.cell? ⟨b, 0, none⟩ = some (.slice A1 ng c1)) (z1 : w.cell? ⟨b, 1, none⟩ = some (.slice B2 nt c2)) (hg : g < w.heap.size) (hr : ∀ i : Nat, i < n → w.cell? ⟨g, i, none⟩ = some (.int .i64 ((T + i : Nat) : Int))) (hn : n ≤ 1000) :
    Calls Tryd.prog 26 #[.pointer (some ⟨b, 0, none⟩), .int .i64 (-1), .slice (some ⟨g, 0, none⟩) n rc] w fun e w' => ∃ C cc, e = .returned (.agg #[.slice A1 ng c1, .slice B2 nt c2, .slice C n cc, .int .i64 2]) ∧ w'.ownsRow w.heap.size 95 3 (.slice C n cc) n (plCells (seedP T n)) ∧ Below w.heap.size w w' := by
  obtain ⟨iP, hiP, hP0, hP1, hP2⟩ := info_parts infoPlM
  have hrH := Lib.hid hr
  clear hr
  go_enter Tryd.func26, Tryd.ntmps26
  go_wp2
  have bR0 := Lib.hid ((Bx.made w [.slice none 0 0, .slice none 0 0, .slice none 0 0, .int .i64 0] 38).below (bl_al (bl_refl _) (Obj.cells #[.slice A1 ng c1, .slice B2 nt c2, .slice none 0 0, .int .i64 2] 38)))
  have bS0 : Hid (Bx ((w.alloc (Obj.cells #[.slice none 0 0, .slice none 0 0, .slice none 0 0, .int .i64 0] 38)).alloc (Obj.cells #[.slice A1 ng c1, .slice B2 nt c2, .slice none 0 0, .int .i64 2] 38)) (w.heap.size + 1) [.slice A1 ng c1, .slice B2 nt c2, .slice none 0 0, .int .i64 2]) := Lib.hid (by
    have := Bx.made (w.alloc (Obj.cells #[.slice none 0 0, .slice none 0 0, .slice none 0 0, .int .i64 0] 38)) [.slice A1 ng c1, .slice B2 nt c2, .slice none 0 0, .int .i64 2] 38
    rw [World.size_alloc] at this
    exact this)
  go_loopg [8] n (fun gk i wr => ∃ (j : Nat) (C : Option Addr) (c : Nat), j + gk = n ∧ i = .int .i64 (j : Int) ∧ Hid (wr.ownsRow (w.heap.size + 2) 95 3 (.slice C j c) j (plCells (seedP T j))) ∧ Hid (Bx wr (w.heap.size + 1) [.slice A1 ng c1, .slice B2 nt c2, .slice C j c, .int .i64 2]) ∧ Hid (Bx wr w.heap.size [.slice none 0 0, .slice none 0 0, .slice none 0 0, .int .i64 0]) ∧ Hid (Below w.heap.size w wr))
  case atStart => exact ⟨0, none, 0, by omega, rfl, Lib.hid (World.ownsRow_nil _ _ _ _), bS0, bR0, Lib.hid (bl_al (bl_al (bl_refl _) _) _)⟩
  case round =>
    obtain ⟨j, C, c, hj, rfl, hrp, bS, bR, hbw⟩ := hrel
    clear bS0 bR0
    have hszl := hbw.out.size
    have y2 := bS.out.cell 2 _ rfl
    have fS := bS.out.froz 2
    have lS := bS.out.lt
    by_cases hjn : j < n
    · have p0 := (hbw.out.cell (p := ⟨g, j, none⟩) hg).trans (hrH.out j hjn)
      have lg := Nat.lt_of_lt_of_le hg hszl
      obtain ⟨tj, htj⟩ : ∃ tj : Nat, T + j = tj := ⟨_, rfl⟩
      rw [htj] at p0
      have htjH := Lib.hid htj
      obtain ⟨xj, hxj⟩ : ∃ xj : Int, (j : Int) - 1 = xj := ⟨_, rfl⟩
      have hwk : IntKind.i64.wrap (-1 + (j : Int)) = xj := by rw [wrapN (by omega) (by omega)]; omega
      have hxjH := Lib.hid hxj
      clear htj hxj
      go_wp2_with fail
      refine wp_region_ord [(0, .q), (1, .q), (2, .q), (3, .q), (4, .q), (5, .q), (6, .q), (7, .q), (8, .q), (9, .q), (10, .q), (11, .q), (12, .g), (13, .b), (14, .q), (15, .q), (16, .b)] (by kernel_rfl) (by kernel_rfl) ?_
      simp only [pick, List.filterMap_cons, List.filterMap_nil, List.getElem?_toArray, List.getElem?_cons_zero, List.getElem?_cons_succ, Option.map_some]
      repeat (first | ((with_reducible refine wpD_p (fun K hK => ?_)); go_simp; refine hK _ ?_; clear hK K) | ((with_reducible refine wpD_q (fun K hK => ?_)); go_simp; (first | refine hK _ ?_ | (go_bits; refine hK _ ?_) | (go_bits; go_simp; refine hK _ ?_)); clear hK K))
      with_reducible refine wpD_g (fun K hK => ?_)
      go_simp
      refine ⟨Grew.of_alloc _, hK _ _ ?_⟩
      clear hK K
      have hal : Below wr.heap.size wr (wr.drew.alloc (Obj.cells #[.int .i64 xj, .int .i64 0, .int .i64 (tj : Int)] 95)) := bl_al (bl_dr (bl_refl _)) _
      have hrp1 := ownsRow_below hrp.out hal
      refine wpD_append_atN rfl _ _ 34 rfl (w.heap.size + 2) 95 iP (.agg #[.int .i64 0, .int .i64 0, .int .i64 0]) 3 24 Tryd.underlying34 hiP hP0 hP1 hP2 rfl (by decide) (.slice C j c) j (plCells (seedP T j)) (by go_simp) hrp1 ⟨wr.heap.size, 0, none⟩ 1 1 [.int .i64 xj, .int .i64 0, .int .i64 (tj : Int)] (by go_simp) rfl (cell_three_newM _ _ _ _ _) (fun x hx => by simp at hx; rcases hx with rfl | rfl | rfl <;> rfl) (by unfold maxLen; omega) (by omega) (by simp; omega) ?_
      intro v5 w5 hown5 hgrow5 hat5
      obtain ⟨A5, c5, rfl⟩ := ownsRow_form hown5
      have hlo : ∀ g, (Value.slice C j c).ownBlock = some g → w.heap.size + 2 ≤ g := fun g e => (hrp.out.lt g e).1
      have bS5 := Lib.hid ((bS.out.below hal).grown hgrow5 (fun e => by have := hlo _ e; omega))
      have bR5 := Lib.hid ((bR.out.below hal).grown hgrow5 (fun e => by have := hlo _ e; omega))
      have bw5 := Lib.hid ((hbw.out.trans (hal.mono hszl)).grown hgrow5 (by have := hal.size; omega) (fun g e => by have := hlo g e; omega))
      have hown5H := Lib.hid (show w5.ownsRow (w.heap.size + 2) 95 3 (.slice A5 (j + 1) c5) (j + 1) (plCells (seedP T (j + 1))) by rw [seedP_succ, plCells_snoc, htjH.out, hxjH.out]; exact hown5)
      have q2 := bS5.out.cell 2 _ rfl
      have qf := bS5.out.froz 2
      have ql := bS5.out.lt
      clear hown5 hgrow5 hat5 hal hrp1 hrp bS bR hbw y2 fS lS p0 hlo hszl
      repeat (first | ((with_reducible refine wpD_p (fun K hK => ?_)); go_simp; refine hK _ ?_; clear hK K) | ((with_reducible refine wpD_q (fun K hK => ?_)); go_simp; (first | refine hK _ ?_ | (go_bits; refine hK _ ?_) | (go_bits; go_simp; refine hK _ ?_)); clear hK K))
      with_reducible refine wpD_b (fun K hK => ?_)
      go_simp
      refine hK _ _ ?_
      clear hK K
      with_reducible refine wpD_nil ?_
      go_wp2
      go_roundg (n - (j + 1))
      case measure => omega
      case rel => exact ⟨j + 1, A5, c5, by omega, by go_num, Lib.hid (ownsRow_setB hown5H.out (p := ⟨w.heap.size + 1, 2, none⟩) (show w.heap.size + 1 < w.heap.size + 2 by omega) _), Lib.hid (bS5.out.setSame 2 _), Lib.hid (bR5.out.setOther (a := ⟨w.heap.size + 1, 2, none⟩) (show w.heap.size + 1 ≠ w.heap.size by omega) _), Lib.hid (bw5.out.setCell (p := ⟨w.heap.size + 1, 2, none⟩) (show w.heap.size ≤ w.heap.size + 1 by omega) _)⟩
    · obtain rfl : j = n := by omega
      have y0 := bS.out.cell 0 _ rfl
      have y1 := bS.out.cell 1 _ rfl
      have y3 := bS.out.cell 3 _ rfl
      have r0 := bR.out.cell 0 _ rfl
      have r1 := bR.out.cell 1 _ rfl
      have r2 := bR.out.cell 2 _ rfl
      have r3 := bR.out.cell 3 _ rfl
      have rf := bR.out.froz
      have lr := bR.out.lt
      go_wp2
      refine bodyPost_ret (v := .agg #[.slice A1 ng c1, .slice B2 nt c2, .slice C j c, .int .i64 2]) (by simp only [results, Tryd.results26]; go_simp) rfl ?_
      refine ⟨C, c, rfl, ?_, ?_⟩
      · exact ownsRow_lo (row_set4 hrp.out (show w.heap.size < w.heap.size + 2 by omega) _ _ _ _) (by omega)
      · exact bl_sys hbw.out _ _ _ _
theorem nm_tAll {gs : List Gl} {ms : List Mvm} {Q S : Nat} (hok : ∀ v ∈ ms, OkMv Q S v) : NmL (tAll gs Q S ms) (fun c => (c.1 < 3 ∧ c.2.1 < Q ∧ c.2.2 < S) ∨ ((c.1 = 3 ∨ c.1 = 4) ∧ c.2.1 < S ∧ c.2.2 = 0) ∨ ((c.1 = 5 ∨ c.1 = 6) ∧ c.2.1 = 0 ∧ c.2.2 = 0)) := by
  refine ((((NmL.mono (nm_tMs_all hok) fun c h => .inl ⟨by omega, h.2⟩).app ((nm_tIa Q).mono fun c h => .inl ⟨by omega, h.2⟩)).app ((nm_tEW S).mono fun c h => .inr (.inl h))).app (NmL.one (.inr (.inr ⟨.inl rfl, rfl, rfl⟩)))).app (NmL.one (.inr (.inr ⟨.inr rfl, rfl, rfl⟩)))
theorem nm_tCs {gs : List Gl} {l : List Int} {h s : Nat} : ∀ k, NmL (tCs gs l h s k) (fun c => c.1 = 8 ∧ c.2.1 < k ∧ c.2.2 = 0)
  | 0 => fun t ht => by cases ht
  | k + 1 => by
    have ih := (nm_tCs (gs := gs) (l := l) (h := h) (s := s) k).mono (L' := fun c => c.1 = 8 ∧ c.2.1 < k + 1 ∧ c.2.2 = 0) (fun c h => ⟨h.1, by omega, h.2.2⟩)
    exact ih.app (NmL.one (by simp))
/-- names in the row's tiles so far -/
def LRw (Q S k : Nat) (c : Cd) : Prop := ((c.1 < 3 ∧ c.2.1 < Q ∧ c.2.2 < S) ∨ ((c.1 = 3 ∨ c.1 = 4) ∧ c.2.1 < S ∧ c.2.2 = 0) ∨ ((c.1 = 5 ∨ c.1 = 6) ∧ c.2.1 = 0 ∧ c.2.2 = 0)) ∨ (c.1 = 7 ∧ c.2.1 = 0 ∧ c.2.2 = 0) ∨ (c.1 = 8 ∧ c.2.1 < k ∧ c.2.2 = 0)
theorem nm_row {gs gs' : List Gl} {ms : List Mvm} {l : List Int} {h s Q S : Nat} (hok : ∀ v ∈ ms, OkMv Q S v) (k : Nat) : NmL (tAll gs Q S ms ++ [tF gs'] ++ tCs gs' l h s k) (LRw Q S k) :=
  (((nm_tAll hok).mono fun c h => .inl h).app (NmL.one (.inr (.inl ⟨rfl, rfl, rfl⟩)))).app ((nm_tCs k).mono fun c h => .inr (.inr h))
end Go.Proofs.YtkiamhpapkgboaaDoor
/- Walk: MachineSystem of the reference. -/

namespace Go.Proofs.YtkiamhpapkgboaaDoor
open Go.RowKit Go.Shelf
attribute [local go_sem] BelowBy.cell BelowBy.cell_drew stillUpon givesUpon

set_option maxRecDepth 100000 in
set_option maxHeartbeats 8000000 in
theorem sMachineSystem_any (Qi Si hi si : Int) (MA TA : Option Addr) (mn mc n tc : Nat) (ms : List Mvm) (l : List Int) (w : World) (hm : RdSl 5 RMv w MA mn ms) (ht : RdSl 1 RInt w TA n l) (hmn : mn ≤ 1073741824) (hnn : n ≤ 1073741824) :
    Calls Tryd.prog 6 #[.agg #[.int .i64 Qi, .int .i64 Si, .slice MA mn mc], .agg #[.slice TA n tc, .int .i64 hi, .int .i64 si]] w (SyRes w (machR Qi Si ms l hi si)) := by
  obtain ⟨i1, hi', hz0', hz1', hz2'⟩ := info_parts infoI
  have hmH := Lib.hid hm
  have htH := Lib.hid ht
  clear hm ht
  have hal0 : Below w.heap.size w (((w.alloc (Obj.cells #[.int .i64 Qi, .int .i64 Si, .slice MA mn mc] 43)).alloc (Obj.cells #[.slice TA n tc, .int .i64 hi, .int .i64 si] 45)).alloc (Obj.cells #[.slice none 0 0, .slice none 0 0, .slice none 0 0, .int .i64 0] 38)) := bl_al (bl_al (bl_al (bl_refl _) _) _) _
  have bM0 := Lib.hid (((Bx.made w [.int .i64 Qi, .int .i64 Si, .slice MA mn mc] 43).below (bl_al (bl_refl _) (Obj.cells #[.slice TA n tc, .int .i64 hi, .int .i64 si] 45))).below (bl_al (bl_refl _) (Obj.cells #[.slice none 0 0, .slice none 0 0, .slice none 0 0, .int .i64 0] 38)))
  have bC0 := Lib.hid ((Bx.made (w.alloc (Obj.cells #[.int .i64 Qi, .int .i64 Si, .slice MA mn mc] 43)) [.slice TA n tc, .int .i64 hi, .int .i64 si] 45).below (bl_al (bl_refl _) (Obj.cells #[.slice none 0 0, .slice none 0 0, .slice none 0 0, .int .i64 0] 38)))
  have bS0 := Lib.hid (Bx.made ((w.alloc (Obj.cells #[.int .i64 Qi, .int .i64 Si, .slice MA mn mc] 43)).alloc (Obj.cells #[.slice TA n tc, .int .i64 hi, .int .i64 si] 45)) [.slice none 0 0, .slice none 0 0, .slice none 0 0, .int .i64 0] 38)
  simp only [World.size_alloc, List.toArray] at bM0 bC0 bS0
  go_enter Tryd.func6, Tryd.ntmps6
  go_wp2_with fail
  obtain ⟨w0, hw0⟩ : ∃ w0, w0 = ((w.alloc (Obj.cells #[.int .i64 Qi, .int .i64 Si, .slice MA mn mc] 43)).alloc (Obj.cells #[.slice TA n tc, .int .i64 hi, .int .i64 si] 45)).alloc (Obj.cells #[.slice none 0 0, .slice none 0 0, .slice none 0 0, .int .i64 0] 38) := ⟨_, rfl⟩
  have hz0 : w.heap.size + 3 ≤ w0.heap.size := by rw [hw0]; simp
  rw [← hw0] at hal0 bM0 bC0 bS0 ⊢
  clear hw0
  have hMc0 : McAt w0 w.heap.size Qi Si ms := ⟨bM0.out.lt, bM0.out.cell 0 _ rfl, bM0.out.cell 1 _ rfl, MA, mn, mc, bM0.out.cell 2 _ rfl, hmH.out.below RMv.stable hal0, hmn⟩
  have hCf0 : CfAt w0 (w.heap.size + 1) l hi si := ⟨bC0.out.lt, ⟨TA, n, tc, bC0.out.cell 0 _ rfl, htH.out.below RInt.stable hal0, hnn⟩, bC0.out.cell 1 _ rfl, bC0.out.cell 2 _ rfl⟩
  have halH := Lib.hid hal0
  obtain ⟨vm, hvm⟩ : ∃ v, mcB Qi Si ms = v := ⟨_, rfl⟩
  refine (l17Ok_any w.heap.size Qi Si ms w0 hMc0 vm hvm).mono ?_
  rintro e w1 ⟨rfl, hb1⟩
  have hMc1 := Lib.hid (hMc0.below hb1)
  have hCf1 := Lib.hid (hCf0.below hb1)
  have bM1 := Lib.hid (bM0.out.below hb1)
  have bC1 := Lib.hid (bC0.out.below hb1)
  have bS1 := Lib.hid (bS0.out.below hb1)
  have hk1 := Lib.hid (hal0.trans (hb1.mono (by omega)))
  have hz1 : w.heap.size + 3 ≤ w1.heap.size := by have := hb1.size; omega
  clear hMc0 hCf0 bM0 bC0 bS0 hal0 halH hb1 hz0
  cases vm
  · have hr := Lib.hid (show noSy 1 = machR Qi Si ms l hi si by unfold machR; rw [hvm]; rfl)
    have r0 := bS1.out.cell 0 _ rfl
    have r1 := bS1.out.cell 1 _ rfl
    have r2 := bS1.out.cell 2 _ rfl
    have r3 := bS1.out.cell 3 _ rfl
    have rf := bS1.out.froz
    have lr := bS1.out.lt
    go_wp2
    refine bodyPost_ret (v := .tuple #[.agg #[.slice none 0 0, .slice none 0 0, .slice none 0 0, .int .i64 0], .int .i64 1]) (by simp only [results, Tryd.results6]; go_simp) rfl ?_
    exact SyRes.none_ hr.out (((((hk1.out.setCell (p := ⟨w.heap.size + 1 + 1, 0, none⟩) (by simp; omega) _).setCell (p := ⟨w.heap.size + 1 + 1, 1, none⟩) (by simp; omega) _).setCell (p := ⟨w.heap.size + 1 + 1, 2, none⟩) (by simp; omega) _).setCell (p := ⟨w.heap.size + 1 + 1, 3, none⟩) (by simp; omega) _))
  have hQS : (1 ≤ Qi ∧ Qi ≤ 5) ∧ (1 ≤ Si ∧ Si ≤ 4) := by
    have h := hvm
    unfold mcB at h
    simp only [Bool.and_eq_true, inB_true] at h
    exact ⟨h.1, h.2.1⟩
  obtain ⟨vc, hvc⟩ : ∃ v, cfB Qi Si l hi si = v := ⟨_, rfl⟩
  have hvcH := Lib.hid hvc
  go_wp2_with fail
  refine (l17Config_any w.heap.size (w.heap.size + 1) Qi Si hi si ms l w1 hMc1.out hCf1.out hQS.1 hQS.2 vc hvcH.out).mono ?_
  rintro e w2 ⟨rfl, hb2⟩
  have bM2 := Lib.hid (bM1.out.below hb2)
  have bC2 := Lib.hid (bC1.out.below hb2)
  have bS2 := Lib.hid (bS1.out.below hb2)
  have hk2 := Lib.hid (hk1.out.trans (hb2.mono (by omega)))
  have hz2 : w.heap.size + 3 ≤ w2.heap.size := by have := hb2.size; omega
  clear bM1 bC1 bS1 hk1 hb2 hMc1 hCf1 hz1
  cases vc
  · have hr := Lib.hid (show noSy 1 = machR Qi Si ms l hi si by unfold machR; rw [hvm, hvc]; rfl)
    have r0 := bS2.out.cell 0 _ rfl
    have r1 := bS2.out.cell 1 _ rfl
    have r2 := bS2.out.cell 2 _ rfl
    have r3 := bS2.out.cell 3 _ rfl
    have rf := bS2.out.froz
    have lr := bS2.out.lt
    go_wp2
    refine bodyPost_ret (v := .tuple #[.agg #[.slice none 0 0, .slice none 0 0, .slice none 0 0, .int .i64 0], .int .i64 1]) (by simp only [results, Tryd.results6]; go_simp) rfl ?_
    exact SyRes.none_ hr.out (((((hk2.out.setCell (p := ⟨w.heap.size + 1 + 1, 0, none⟩) (by simp; omega) _).setCell (p := ⟨w.heap.size + 1 + 1, 1, none⟩) (by simp; omega) _).setCell (p := ⟨w.heap.size + 1 + 1, 2, none⟩) (by simp; omega) _).setCell (p := ⟨w.heap.size + 1 + 1, 3, none⟩) (by simp; omega) _))
  obtain ⟨hO, q1, q2, q3, q4⟩ := mcOk_of hvm hvc
  have hr := Lib.hid (show (machS Qi.toNat Si.toNat ms l hi.toNat si.toNat, (0 : Int)) = machR Qi Si ms l hi si by unfold machR; rw [hvm, hvc]; rfl)
  obtain ⟨Q, hQn⟩ : ∃ k, Qi.toNat = k := ⟨_, rfl⟩
  obtain ⟨S, hSn⟩ : ∃ k, Si.toNat = k := ⟨_, rfl⟩
  obtain ⟨h, hhn⟩ : ∃ k, hi.toNat = k := ⟨_, rfl⟩
  obtain ⟨s, hsn⟩ : ∃ k, si.toNat = k := ⟨_, rfl⟩
  rw [hQn, hSn, hhn, hsn] at hr hO
  rw [hQn] at q1
  rw [hSn] at q2
  rw [hhn] at q3
  rw [hsn] at q4
  subst q1 q2 q3 q4
  have hOH := Lib.hid hO
  have hlenH := Lib.hid (machS_len hO)
  have hQ5 := hO.kq.2
  have hS4 := hO.ks.2
  have htl := Lib.hid htH.out.len
  have hml := Lib.hid hmH.out.len
  have hn12 : n ≤ 12 := by have := hO.km.2; have := htH.out.len; omega
  have hkh : h < n := by have := hO.kh; have := htH.out.len; omega
  have hmn20 : mn ≤ 20 := by have := hO.kn; have := hmH.out.len; omega
  have hst := hO.st
  clear hvm hvc hO hQn hSn hhn hsn hQS hvcH
  obtain ⟨wB, hwB⟩ : ∃ wB, wB = w2.alloc (Obj.cells #[.slice none 0 0, .slice none 0 0] 62) := ⟨_, rfl⟩
  have hSk : Sk wB w2.heap.size ([], []) := by rw [hwB]; exact Sk.made w2
  have jB : Below w2.heap.size w2 wB := by rw [hwB]; exact bl_al (bl_refl _) _
  have bMB := Lib.hid (bM2.out.below jB)
  have bCB := Lib.hid (bC2.out.below jB)
  have bSB := Lib.hid (bS2.out.below jB)
  have hkB := Lib.hid (hk2.out.trans (jB.mono (by omega)))
  have hzB := jB.size
  have hlB := hSk.lt
  have c0 := bMB.out.cell 0 _ rfl
  have c1 := bMB.out.cell 1 _ rfl
  have c2 := bMB.out.cell 2 _ rfl
  have t0 := bCB.out.cell 0 _ rfl
  have t1 := bCB.out.cell 1 _ rfl
  have t2 := bCB.out.cell 2 _ rfl
  obtain ⟨b, hbe⟩ : ∃ b, b = w2.heap.size := ⟨_, rfl⟩
  rw [← hbe] at hSk hlB
  have hbz : w.heap.size + 3 ≤ b := by omega
  have hwbz : w.heap.size ≤ b := by omega
  have hp : w.heap.size + 1 < b := by omega
  have hSkH := Lib.hid hSk
  obtain ⟨ts, hts⟩ : ∃ ts, tAll (glG (cG Q S)) Q S ms = ts := ⟨_, rfl⟩
  have htsH := Lib.hid hts
  have hts80 := Lib.hid (show ts.length ≤ 80 by rw [← hts]; exact hlenH.out.2.2.2)
  go_wp2_with fail
  rw [← hwB, ← hbe]
  clear hwB hbe hSk hts jB bM2 bC2 bS2 hk2 hz2 hzB
  have hTA := Lib.hid (fun w' (hb : Below b wB w') => (htH.out.below RInt.stable (hkB.out.trans (hb.mono hwbz)) : RdSl 1 RInt w' TA n l))
  refine (moves_any b w.heap.size Q S mn mc MA ms wB hSkH.out (by omega) c0 c1 c2 (fun w' hb => hmH.out.below RMv.stable (hkB.out.trans (hb.mono hwbz))) hOH.out.ok hOH.out.new hQ5 hS4 hmn20).mono ?_
  rintro e w3 ⟨rfl, hM3, hF3, hB3⟩
  rw [htsH.out] at hM3
  have hM3H : Hid (Sk w3 b (glG (cG Q S), ts)) := Lib.hid hM3
  have hB3H := Lib.hid hB3
  have p0 := (hB3.cell (p := ⟨w.heap.size + 1, 0, none⟩) hp).trans t0
  have p1 := (hB3.cell (p := ⟨w.heap.size + 1, 1, none⟩) hp).trans t1
  have p2 := (hB3.cell (p := ⟨w.heap.size + 1, 2, none⟩) hp).trans t2
  have lp : w.heap.size + 1 < w3.heap.size := by have := hB3.size; omega
  clear hM3 hF3 hB3 hSkH
  go_wp2
  go_loopg [8] (n + 1) (fun g i wr => ∃ (k : Nat), k + g = n + 1 ∧ i = .int .i64 (k : Int) ∧ Hid (Sk wr b (glG (cR Q S k), ts)) ∧ Hid (Below b wB wr))
  case atStart => exact ⟨0, by omega, rfl, by simp only [cR, cZ, List.range_zero, List.map_nil, List.append_nil]; exact hM3H, hB3H⟩
  case round =>
    clear hM3H hB3H p0 p1 p2 lp
    obtain ⟨k, hk, rfl, hM, hbw⟩ := hrel
    have hszl := hbw.out.size
    have p0 := (hbw.out.cell (p := ⟨w.heap.size + 1, 0, none⟩) hp).trans t0
    have p1 := (hbw.out.cell (p := ⟨w.heap.size + 1, 1, none⟩) hp).trans t1
    have p2 := (hbw.out.cell (p := ⟨w.heap.size + 1, 2, none⟩) hp).trans t2
    have lp : w.heap.size + 1 < wr.heap.size := by omega
    by_cases hkn : k < n + 1
    · have hkI : ((k : Int) ≤ (n : Int)) := by omega
      have hmul := mul_bd hQ5 hS4
      obtain ⟨dk, hdk⟩ : ∃ s, decN k = s := ⟨_, rfl⟩
      have zdk : dk.size ≤ 3 := by rw [← hdk]; exact decN_size (by omega)
      have hdkH := Lib.hid hdk
      obtain ⟨nm, hnm⟩ : ∃ s : ByteArray, (⟨#[122]⟩ : ByteArray) ++ dk = s := ⟨_, rfl⟩
      have qnm := cat_at hnm (Nat.le_trans (Nat.add_le_add (show ByteArray.size _ ≤ 1 by first | assumption | decide) (show ByteArray.size _ ≤ 3 by first | assumption | decide)) (by decide))
      have hgnH := Lib.hid (show gnm (7, k, 0) = nm by rw [← hnm, ← hdk]; rfl)
      have hfrH := Lib.hid (show numG (glG (cR Q S k)) nm = 0 by
        rw [← hgnH.out]
        exact fresh_g (fun d hd => cR_gU hQ5 hS4 (by omega) d hd) (in_gU (by simp <;> omega)) (by rw [mem_cR]; simp))
      have hlenH := Lib.hid (show (glG (cR Q S k)).length ≤ 1000 by rw [glG_len, len_cR]; omega)
      have jb : Below wr.heap.size wr wr := bl_refl wr
      clear hnm hdk
      go_wp2_with fail
      refine (lDecimal_n (u := k) _ (by omega) hdkH.out).mono ?_
      rintro e w5 ⟨rfl, hb⟩
      replace jb := jb.trans (hb.mono jb.size)
      clear hb
      go_wp2_with fail
      refine (sglue_cd (cs := cR Q S k) (c := (7, k, 0)) (hM.out.below jb) hgnH.out (by simp [gst]) hfrH.out hlenH.out).mono ?_
      rintro e w6 ⟨⟨kk, rfl⟩, hM6, hF6, hB6⟩
      have hM7 := Lib.hid hM6
      have bw7 := Lib.hid ((hbw.out.trans (jb.mono (show b ≤ wr.heap.size by omega))).trans hB6)
      clear hM6 hF6 hB6 jb hM hbw p0 p1 p2 lp hszl hgnH hfrH hlenH
      go_wp2
      go_roundg (n + 1 - (k + 1))
      case measure => omega
      case rel => exact ⟨k + 1, by omega, by go_num, by rw [cR_succ]; exact hM7, bw7⟩
    · obtain rfl : k = n + 1 := by omega
      have hkI : ¬ (((n : Int) + 1) ≤ (n : Int)) := by omega
      have hmul := mul_bd hQ5 hS4
      obtain ⟨gs, hgs⟩ : ∃ gs, glG (cR Q S (n + 1)) = gs := ⟨_, rfl⟩
      have hgl : gs.length ≤ 1000 := by rw [← hgs, glG_len, len_cR]; omega
      have hem := Lib.hid (show numG gs ⟨#[]⟩ = 0 by rw [← hgs]; exact (num_dash (cR_gU hQ5 hS4 (by omega))).2)
      have hM1 := hM.out
      rw [hgs] at hM1
      have hM1 := Lib.hid hM1
      have hgsH := Lib.hid hgs
      have kbl := Lib.hid (NmG.of (c := (5, 0, 0)) (s := ⟨#[98, 108]⟩) (in_gU (by simp)) rfl)
      have kbr := Lib.hid (NmG.of (c := (6, 0, 0)) (s := ⟨#[98, 114]⟩) (in_gU (by simp)) rfl)
      have kz := Lib.hid (NmG.of (c := (7, 0, 0)) (s := ⟨#[122, 48]⟩) (in_gU (by simp)) z0_eq)
      have kF := Lib.hid (NmT.of (c := (7, 0, 0)) (s := ⟨#[102, 105, 114, 115, 116]⟩) (in_tU (by simp)) rfl)
      have kZ := Lib.hid (NmT.of (c := (9, 0, 0)) (s := ⟨#[108, 97, 115, 116]⟩) (in_tU (by simp)) rfl)
      have hNr := Lib.hid (fun k => (show NmL (ts ++ [tF gs] ++ tCs gs l h s k) (LRw Q S k) by rw [← htsH.out]; exact nm_row hOH.out.ok k))
      have hN0 := Lib.hid (show NmL ts (fun c => (c.1 < 3 ∧ c.2.1 < Q ∧ c.2.2 < S) ∨ ((c.1 = 3 ∨ c.1 = 4) ∧ c.2.1 < S ∧ c.2.2 = 0) ∨ ((c.1 = 5 ∨ c.1 = 6) ∧ c.2.1 = 0 ∧ c.2.2 = 0)) by rw [← htsH.out]; exact nm_tAll hOH.out.ok)
      have hfr0 := Lib.hid (hN0.out.fresh (d := (7, 0, 0)) (nm := ⟨#[102, 105, 114, 115, 116]⟩) (fun c hc => ⟨in_tU (by omega), fun e => by subst e; simp at hc⟩) (in_tU (by simp)) kF.out.eq)
      clear hgs hM
      go_wp2_with fail
      refine (stileX_cd (X := fun _ => False) (gs := gs) (ts := ts) (c := (7, 0, 0)) hM1.out (fun g hg => hg.elim) kF.out.eq (sd_some kbl.out.eq) (sd_some kz.out.eq) (sd_none hem.out) (sd_none hem.out) hfr0.out hgl rfl (Nat.le_trans hts80.out (by decide))).mono ?_
      rintro e w6 ⟨rfl, hM6, hF6, hB6⟩
      have bw6 := Lib.hid (hbw.out.trans hB6)
      have hM6H := Lib.hid hM6
      have hs6 := hB6.size
      have p0 := (bw6.out.cell (p := ⟨w.heap.size + 1, 0, none⟩) hp).trans t0
      have p1 := (bw6.out.cell (p := ⟨w.heap.size + 1, 1, none⟩) hp).trans t1
      have p2 := (bw6.out.cell (p := ⟨w.heap.size + 1, 2, none⟩) hp).trans t2
      have lp : w.heap.size + 1 < w6.heap.size := by omega
      have hal : Below w6.heap.size w6 (w6.alloc (Obj.cells #[.int .i64 (ts.length : Int)] 2)) := bl_al (bl_refl _) _
      have hMX : Hid (SkX (w6.alloc (Obj.cells #[.int .i64 (ts.length : Int)] 2)) b (gs, ts ++ [tF gs] ++ tCs gs l h s 0) (fun q => (Value.slice (some ⟨w6.heap.size, 0, none⟩) (0 + 1) 1).ownBlock = some q)) := Lib.hid (by
        show SkX _ b (gs, ts ++ [tF gs] ++ []) _
        rw [List.append_nil]
        exact (hM6H.out.clear_ (fun g e => .inr (by
          have e2 : w6.heap.size = g := by injection e
          omega))).below hal)
      have hrow0 : Hid ((w6.alloc (Obj.cells #[.int .i64 (ts.length : Int)] 2)).ownsRow (b + 1) 2 1 (.slice (some ⟨w6.heap.size, 0, none⟩) (0 + 1) 1) (0 + 1) (numsT ts.length (0 + 1))) := Lib.hid (World.ownsRow_lit (base := b + 1) (e := 2) (size := 1) w6 #[.int .i64 (ts.length : Int)] 1 (by omega) (by decide) rfl)
      have bwX := Lib.hid (bw6.out.trans (hal.mono (show b ≤ w6.heap.size by omega)))
      clear hM6 hF6 hB6 hM1 hbw hal
      go_wp2_with fail
      go_loopg [10, 9, 11] n (fun gk i v u wr => ∃ (k : Nat) (A : Option Addr) (c : Nat), k + gk = n ∧ i = .int .i64 (k : Int) ∧ v = .slice A (k + 1) c ∧ Hid (SkX wr b (gs, ts ++ [tF gs] ++ tCs gs l h s k) (fun q => (Value.slice A (k + 1) c).ownBlock = some q)) ∧ Hid (wr.ownsRow (b + 1) 2 1 (.slice A (k + 1) c) (k + 1) (numsT ts.length (k + 1))) ∧ Hid (Below b wB wr))
      case atStart => exact ⟨0, some ⟨w6.heap.size, 0, none⟩, 1, by omega, rfl, rfl, hMX, hrow0, bwX⟩
      case round =>
        clear hMX hrow0 bwX hM6H p0 p1 p2 lp bw6 hs6 hszl
        obtain ⟨k, A, c, hk, rfl, rfl, hM, hrow, hbw⟩ := hrel
        have hszl := hbw.out.size
        have p0 := (hbw.out.cell (p := ⟨w.heap.size + 1, 0, none⟩) hp).trans t0
        have p1 := (hbw.out.cell (p := ⟨w.heap.size + 1, 1, none⟩) hp).trans t1
        have p2 := (hbw.out.cell (p := ⟨w.heap.size + 1, 2, none⟩) hp).trans t2
        have lp : w.heap.size + 1 < wr.heap.size := by omega
        by_cases hkn : k < n
        · obtain ⟨a, ha⟩ : ∃ a, l[k]? = some a := ⟨_, List.getElem?_eq_getElem (by rw [htl.out]; exact hkn)⟩
          obtain ⟨bb, ob, rfl, hbb, hbc⟩ := (hTA.out wr hbw.out).ptr (by omega)
          have hoa := hOH.out.sy a (List.mem_of_getElem? ha)
          have hgd : l.getD k 0 = a := by rw [List.getD_eq_getElem?_getD, ha]; rfl
          have e0 : wr.cell? ⟨bb, ob + k, none⟩ = some (.int .i64 a) := by have := hbc k a ha; rw [Nat.mul_one] at this; exact this
          obtain ⟨va, rfl⟩ : ∃ v : Nat, a = (v : Int) := ⟨a.toNat, by omega⟩
          have hva : va < 4 := by omega
          obtain ⟨da, hda⟩ : ∃ s, decN va = s := ⟨_, rfl⟩
          have zda : da.size ≤ 3 := by rw [← hda]; exact decN_size (by omega)
          have hdaH := Lib.hid hda
          obtain ⟨na, hna⟩ : ∃ s : ByteArray, (⟨#[97]⟩ : ByteArray) ++ da = s := ⟨_, rfl⟩
          have qna := cat_at hna (Nat.le_trans (Nat.add_le_add (show ByteArray.size _ ≤ 1 by first | assumption | decide) (show ByteArray.size _ ≤ 3 by first | assumption | decide)) (by decide))
          have ka := Lib.hid (NmG.of (c := (0, va, 0)) (s := na) (in_gU (by simp <;> omega)) (by rw [← hna, ← hda]; rfl))
          have hkI0 : (k : Int) < (n : Int) := by omega
          clear hbc ha hoa hna hda
          have jb : Below wr.heap.size wr wr := bl_refl wr
          go_wp2_with fail
          refine (lDecimal_n (u := va) _ (by omega) hdaH.out).mono ?_
          rintro e w4 ⟨rfl, hb⟩
          replace jb := jb.trans (hb.mono jb.size)
          clear hb
          have p0 := (jb.cell (p := ⟨w.heap.size + 1, 0, none⟩) lp).trans p0
          have p1 := (jb.cell (p := ⟨w.heap.size + 1, 1, none⟩) lp).trans p1
          have p2 := (jb.cell (p := ⟨w.heap.size + 1, 2, none⟩) lp).trans p2
          have e0 := (jb.cell (p := ⟨bb, ob + k, none⟩) hbb).trans e0
          have lp : w.heap.size + 1 < w4.heap.size := by have := jb.size; omega
          have hbb := Nat.lt_of_lt_of_le hbb jb.size
          by_cases hkh2 : k = h
          · have hcode := Lib.hid (show ownC l h s k = (2, s, va) by unfold ownC; rw [if_pos hkh2, hgd]; rfl)
            subst hkh2
            obtain ⟨nh, hnh⟩ : ∃ s', pairN ⟨#[104]⟩ s va = s' := ⟨_, rfl⟩
            have kh := Lib.hid (NmG.of (c := (2, s, va)) (s := nh) (in_gU (by simp <;> omega)) hnh)
            have hnhH := Lib.hid hnh
            clear hgd hnh
            go_wp2_with fail
            replace jb : Below wr.heap.size wr w4.drew := bl_dr jb
            refine wp_region_ord [(0, .q), (1, .q), (2, .q), (3, .q), (4, .q), (5, .q), (6, .q), (7, .g), (8, .q)] (by kernel_rfl) (by kernel_rfl) ?_
            simp only [pick, List.filterMap_cons, List.filterMap_nil, List.getElem?_toArray, List.getElem?_cons_zero, List.getElem?_cons_succ, Option.map_some]
            repeat (first | ((with_reducible refine wpD_p (fun K hK => ?_)); go_simp; refine hK _ ?_; clear hK K) | ((with_reducible refine wpD_q (fun K hK => ?_)); go_simp; (first | refine hK _ ?_ | (go_bits; refine hK _ ?_) | (go_bits; go_simp; refine hK _ ?_)); clear hK K))
            with_reducible refine wpD_g (fun K hK => ?_)
            go_simp
            refine (l18Head_n (a := s) (b := va) _ (by omega) (by omega) hnhH.out).mono ?_
            rintro e w5 ⟨rfl, hb⟩
            refine ⟨_, rfl, hb, hK _ _ ?_⟩
            clear hK K
            replace jb := jb.trans (hb.mono jb.size)
            repeat (first | ((with_reducible refine wpD_p (fun K hK => ?_)); go_simp; refine hK _ ?_; clear hK K) | ((with_reducible refine wpD_q (fun K hK => ?_)); go_simp; (first | refine hK _ ?_ | (go_bits; refine hK _ ?_) | (go_bits; go_simp; refine hK _ ?_)); clear hK K))
            with_reducible refine wpD_nil ?_
            have hbz9 := hbw.out.size
            have hM := Lib.hid (hM.out.below jb)
            have hrow := Lib.hid (ownsRow_below hrow.out jb)
            have hbw := Lib.hid (hbw.out.trans (jb.mono (show b ≤ wr.heap.size by omega)))
            clear jb p0 p1 p2 lp e0 hbb hszl hbz9
            obtain ⟨wr, hwr⟩ : ∃ x : World, x = w5 := ⟨_, rfl⟩
            subst hwr
            have hszl := hbw.out.size
            have p0 := (hbw.out.cell (p := ⟨w.heap.size + 1, 0, none⟩) hp).trans t0
            have p1 := (hbw.out.cell (p := ⟨w.heap.size + 1, 1, none⟩) hp).trans t1
            have p2 := (hbw.out.cell (p := ⟨w.heap.size + 1, 2, none⟩) hp).trans t2
            have lp : w.heap.size + 1 < wr.heap.size := by omega
            -- the cell's tile, at wr with the north's name in slot 11
            obtain ⟨ncl, hncl⟩ : ∃ s : ByteArray, (⟨#[99, 101, 108, 108]⟩ : ByteArray) ++ decN k = s := ⟨_, rfl⟩
            obtain ⟨k1, hk1⟩ : ∃ k1 : Nat, k + 1 = k1 := ⟨_, rfl⟩
            have hwk : IntKind.i64.wrap ((k : Int) + 1) = (k1 : Int) := by rw [wrapN (by omega) (by omega)]; omega
            have hk1b : k1 < 13 := by omega
            obtain ⟨dk, hdk⟩ : ∃ s, decN k = s := ⟨_, rfl⟩
            have zdk : dk.size ≤ 3 := by rw [← hdk]; exact decN_size (by omega)
            have hdkH := Lib.hid hdk
            obtain ⟨dk1, hdk1⟩ : ∃ s, decN k1 = s := ⟨_, rfl⟩
            have zdk1 : dk1.size ≤ 3 := by rw [← hdk1]; exact decN_size (by omega)
            have hdk1H := Lib.hid hdk1
            rw [hdk] at hncl
            have zn4 : (⟨#[99, 101, 108, 108]⟩ : ByteArray).size ≤ 4 := by decide
            have qncl := cat_at hncl (Nat.le_trans (Nat.add_le_add zn4 zdk) (by decide))
            obtain ⟨nz1, hnz1⟩ : ∃ s : ByteArray, (⟨#[122]⟩ : ByteArray) ++ dk1 = s := ⟨_, rfl⟩
            have qnz1 := cat_at hnz1 (Nat.le_trans (Nat.add_le_add (show ByteArray.size _ ≤ 1 by first | assumption | decide) (show ByteArray.size _ ≤ 3 by first | assumption | decide)) (by decide))
            obtain ⟨nz0, hnz0⟩ : ∃ s : ByteArray, (⟨#[122]⟩ : ByteArray) ++ dk = s := ⟨_, rfl⟩
            have qnz0 := cat_at hnz0 (Nat.le_trans (Nat.add_le_add (show ByteArray.size _ ≤ 1 by first | assumption | decide) (show ByteArray.size _ ≤ 3 by first | assumption | decide)) (by decide))
            have kc := Lib.hid (NmT.of (c := (8, k, 0)) (s := ncl) (in_tU (by simp <;> omega)) (by rw [← hncl, ← hdk]; rfl))
            have kz1 := Lib.hid (NmG.of (c := (7, k + 1, 0)) (s := nz1) (in_gU (by simp <;> omega)) (by rw [← hnz1, ← hdk1, ← hk1]; rfl))
            have kz0 := Lib.hid (NmG.of (c := (7, k, 0)) (s := nz0) (in_gU (by simp <;> omega)) (by rw [← hnz0, ← hdk]; rfl))
            have hk1H := Lib.hid hk1
            clear hk1
            have hts80' := hts80.out
            obtain ⟨tk, htk⟩ : ∃ tk : Nat, ts.length + (k + 1) = tk := ⟨_, rfl⟩
            have hL := Lib.hid (show (ts ++ [tF gs] ++ tCs gs l k s k).length = tk by simp only [List.length_append, List.length_cons, List.length_nil, len_tCs]; omega)
            have htkb : tk ≤ 920 := by omega
            have htkH := Lib.hid htk
            have hfr := Lib.hid ((hNr.out k).fresh (d := (8, k, 0)) (nm := ncl) (fun c hc => ⟨in_tU (by unfold LRw at hc; omega), fun e => by subst e; unfold LRw at hc; simp at hc⟩) (in_tU (by simp <;> omega)) kc.out.eq)
            have hXb : ∀ g, (Value.slice A (k + 1) c).ownBlock = some g → b + 1 ≤ g ∧ g < wr.heap.size := fun g e => hrow.out.lt g e
            have hXbH := Lib.hid hXb
            clear hncl hnz1 hnz0 htk hdk hdk1 hXb zn4
            have jb : Below wr.heap.size wr wr := bl_refl wr
            go_wp2_with fail
            refine (lDecimal_n (u := k) _ (by omega) hdkH.out).mono ?_
            rintro e w1 ⟨rfl, hb⟩
            replace jb := jb.trans (hb.mono jb.size)
            clear hb
            go_wp2_with fail
            refine (lDecimal_n (u := k1) _ (by omega) hdk1H.out).mono ?_
            rintro e w2 ⟨rfl, hb⟩
            replace jb := jb.trans (hb.mono jb.size)
            clear hb
            go_wp2_with fail
            refine (lDecimal_n (u := k) _ (by omega) hdkH.out).mono ?_
            rintro e w3 ⟨rfl, hb⟩
            replace jb := jb.trans (hb.mono jb.size)
            clear hb
            go_wp2_with fail
            refine (stileX_cd (gs := gs) (c := (8, k, 0)) (hM.out.below jb) (fun g e => Nat.lt_of_lt_of_le (hXbH.out g e).2 jb.size) kc.out.eq (sd_some kh.out.eq) (sd_some kz1.out.eq) (sd_none hem.out) (sd_some kz0.out.eq) hfr.out hgl hL.out (by omega)).mono ?_
            rintro e w6 ⟨rfl, hM6, hF6, hB6⟩
            have hrow6 := ownsRow_far (ownsRow_below hrow.out jb) hF6 (by decide)
            have hs6 := hB6.size
            have hj2 := jb.size
            have hal : Below w6.heap.size w6 (w6.alloc (Obj.cells #[.int .i64 (tk : Int)] 2)) := bl_al (bl_refl _) _
            have hrow7 := ownsRow_below hrow6 hal
            have hrow7H := Lib.hid hrow7
            go_wp2_with (at_builtin; refine wpList_append_own_at _ rfl _ _ 25 rfl (b + 1) 2 i1 (.int .i64 0) 1 8 Tryd.underlying25 hi' hz0' hz1' hz2' rfl (by decide) (.slice A (k + 1) c) (k + 1) (numsT ts.length (k + 1)) rfl hrow7H.out ⟨w6.heap.size, 0, none⟩ 1 1 [.int .i64 (tk : Int)] rfl rfl (cell_one_new _ _ _) (fun x hx => by simp at hx; subst hx; rfl) (by unfold maxLen; omega) (by omega) (by simp; omega) ?_; intro v9 w9 hown9 hgrow9 hat9 hat9b; obtain ⟨A9, c9, rfl⟩ := ownsRow_form hown9; have hM8 : SkX w9 b (gs, ts ++ [tF gs] ++ tCs gs l k s k ++ [tlG gs (8, k, 0) [some (2, s, va), some (7, k + 1, 0), none, some (7, k, 0)]]) (fun q => (Value.slice A9 (k + 1 + 1) c9).ownBlock = some q) := (by
                have h1 := ((hM6.below hal).clear_ (Y := fun q => (Value.slice A (k + 1) c).ownBlock = some q ∨ (w6.alloc (Obj.cells #[.int .i64 (tk : Int)] 2)).heap.size ≤ q) (fun g e => e)).grown hgrow9 (fun g e => ⟨.inl e, by have := (hXbH.out g e).1; omega⟩)
                refine h1.clear_ (fun g e => .inl ?_)
                first
                  | (rcases hat9b with h2 | h2
                     · exact .inl (h2.symm.trans e)
                     · rw [h2] at e
                       injection e with e
                       exact .inr (by omega))
                  | (rcases hat9 with h2 | h2
                     · exact .inl (h2.symm.trans e)
                     · rw [h2] at e
                       injection e with e
                       exact .inr (by omega))); have hlo : ∀ g, (Value.slice A (k + 1) c).ownBlock = some g → b + 1 ≤ g := (fun g e => (hXbH.out g e).1); have bw8 := (((hbw.out.trans (jb.mono (show b ≤ wr.heap.size by omega))).trans hB6).trans (hal.mono (show b ≤ w6.heap.size by omega))); have hM9 := Lib.hid hM8; have hrow9 := Lib.hid (show w9.ownsRow (b + 1) 2 1 (.slice A9 (k + 1 + 1) c9) (k + 1 + 1) (numsT ts.length (k + 1 + 1)) by rw [numsT_succ, htkH.out]; exact hown9); have bw9 := Lib.hid (bw8.grown hgrow9 (by have := bw8.size; omega) (fun g e => by have := hlo g e; omega)); clear hown9 hgrow9 hat9 hat9b hM8 bw8 hlo hM6 hF6 hB6 jb hM hrow hbw hs6 hj2 hXbH hL htkH hrow6 hrow7 hrow7H hal)
            go_roundg (n - (k + 1))
            case measure => omega
            case rel => exact ⟨k + 1, A9, c9, by omega, (by have h9 := hk1H.out; rw [← h9]), rfl, by rw [tCs, ← List.append_assoc, show tC gs l k s k = tlG gs (8, k, 0) [some (2, s, va), some (7, k + 1, 0), none, some (7, k, 0)] by unfold tC; rw [hcode.out]]; exact hM9, hrow9, bw9⟩
          · have hcode := Lib.hid (show ownC l h s k = (0, va, 0) by unfold ownC; rw [if_neg hkh2, hgd]; rfl)
            have hkI : ¬ (k : Int) = (h : Int) := by omega
            clear hgd
            have hbz9 := hbw.out.size
            have hM := Lib.hid (hM.out.below jb)
            have hrow := Lib.hid (ownsRow_below hrow.out jb)
            have hbw := Lib.hid (hbw.out.trans (jb.mono (show b ≤ wr.heap.size by omega)))
            clear jb p0 p1 p2 lp e0 hbb hszl hbz9
            obtain ⟨wr, hwr⟩ : ∃ x : World, x = w4 := ⟨_, rfl⟩
            subst hwr
            have hszl := hbw.out.size
            have p0 := (hbw.out.cell (p := ⟨w.heap.size + 1, 0, none⟩) hp).trans t0
            have p1 := (hbw.out.cell (p := ⟨w.heap.size + 1, 1, none⟩) hp).trans t1
            have p2 := (hbw.out.cell (p := ⟨w.heap.size + 1, 2, none⟩) hp).trans t2
            have lp : w.heap.size + 1 < wr.heap.size := by omega
            -- the cell's tile, at wr with the north's name in slot 11
            obtain ⟨ncl, hncl⟩ : ∃ s : ByteArray, (⟨#[99, 101, 108, 108]⟩ : ByteArray) ++ decN k = s := ⟨_, rfl⟩
            obtain ⟨k1, hk1⟩ : ∃ k1 : Nat, k + 1 = k1 := ⟨_, rfl⟩
            have hwk : IntKind.i64.wrap ((k : Int) + 1) = (k1 : Int) := by rw [wrapN (by omega) (by omega)]; omega
            have hk1b : k1 < 13 := by omega
            obtain ⟨dk, hdk⟩ : ∃ s, decN k = s := ⟨_, rfl⟩
            have zdk : dk.size ≤ 3 := by rw [← hdk]; exact decN_size (by omega)
            have hdkH := Lib.hid hdk
            obtain ⟨dk1, hdk1⟩ : ∃ s, decN k1 = s := ⟨_, rfl⟩
            have zdk1 : dk1.size ≤ 3 := by rw [← hdk1]; exact decN_size (by omega)
            have hdk1H := Lib.hid hdk1
            rw [hdk] at hncl
            have zn4 : (⟨#[99, 101, 108, 108]⟩ : ByteArray).size ≤ 4 := by decide
            have qncl := cat_at hncl (Nat.le_trans (Nat.add_le_add zn4 zdk) (by decide))
            obtain ⟨nz1, hnz1⟩ : ∃ s : ByteArray, (⟨#[122]⟩ : ByteArray) ++ dk1 = s := ⟨_, rfl⟩
            have qnz1 := cat_at hnz1 (Nat.le_trans (Nat.add_le_add (show ByteArray.size _ ≤ 1 by first | assumption | decide) (show ByteArray.size _ ≤ 3 by first | assumption | decide)) (by decide))
            obtain ⟨nz0, hnz0⟩ : ∃ s : ByteArray, (⟨#[122]⟩ : ByteArray) ++ dk = s := ⟨_, rfl⟩
            have qnz0 := cat_at hnz0 (Nat.le_trans (Nat.add_le_add (show ByteArray.size _ ≤ 1 by first | assumption | decide) (show ByteArray.size _ ≤ 3 by first | assumption | decide)) (by decide))
            have kc := Lib.hid (NmT.of (c := (8, k, 0)) (s := ncl) (in_tU (by simp <;> omega)) (by rw [← hncl, ← hdk]; rfl))
            have kz1 := Lib.hid (NmG.of (c := (7, k + 1, 0)) (s := nz1) (in_gU (by simp <;> omega)) (by rw [← hnz1, ← hdk1, ← hk1]; rfl))
            have kz0 := Lib.hid (NmG.of (c := (7, k, 0)) (s := nz0) (in_gU (by simp <;> omega)) (by rw [← hnz0, ← hdk]; rfl))
            have hk1H := Lib.hid hk1
            clear hk1
            have hts80' := hts80.out
            obtain ⟨tk, htk⟩ : ∃ tk : Nat, ts.length + (k + 1) = tk := ⟨_, rfl⟩
            have hL := Lib.hid (show (ts ++ [tF gs] ++ tCs gs l h s k).length = tk by simp only [List.length_append, List.length_cons, List.length_nil, len_tCs]; omega)
            have htkb : tk ≤ 920 := by omega
            have htkH := Lib.hid htk
            have hfr := Lib.hid ((hNr.out k).fresh (d := (8, k, 0)) (nm := ncl) (fun c hc => ⟨in_tU (by unfold LRw at hc; omega), fun e => by subst e; unfold LRw at hc; simp at hc⟩) (in_tU (by simp <;> omega)) kc.out.eq)
            have hXb : ∀ g, (Value.slice A (k + 1) c).ownBlock = some g → b + 1 ≤ g ∧ g < wr.heap.size := fun g e => hrow.out.lt g e
            have hXbH := Lib.hid hXb
            clear hncl hnz1 hnz0 htk hdk hdk1 hXb zn4
            have jb : Below wr.heap.size wr wr := bl_refl wr
            go_wp2_with fail
            refine (lDecimal_n (u := k) _ (by omega) hdkH.out).mono ?_
            rintro e w1 ⟨rfl, hb⟩
            replace jb := jb.trans (hb.mono jb.size)
            clear hb
            go_wp2_with fail
            refine (lDecimal_n (u := k1) _ (by omega) hdk1H.out).mono ?_
            rintro e w2 ⟨rfl, hb⟩
            replace jb := jb.trans (hb.mono jb.size)
            clear hb
            go_wp2_with fail
            refine (lDecimal_n (u := k) _ (by omega) hdkH.out).mono ?_
            rintro e w3 ⟨rfl, hb⟩
            replace jb := jb.trans (hb.mono jb.size)
            clear hb
            go_wp2_with fail
            refine (stileX_cd (gs := gs) (c := (8, k, 0)) (hM.out.below jb) (fun g e => Nat.lt_of_lt_of_le (hXbH.out g e).2 jb.size) kc.out.eq (sd_some ka.out.eq) (sd_some kz1.out.eq) (sd_none hem.out) (sd_some kz0.out.eq) hfr.out hgl hL.out (by omega)).mono ?_
            rintro e w6 ⟨rfl, hM6, hF6, hB6⟩
            have hrow6 := ownsRow_far (ownsRow_below hrow.out jb) hF6 (by decide)
            have hs6 := hB6.size
            have hj2 := jb.size
            have hal : Below w6.heap.size w6 (w6.alloc (Obj.cells #[.int .i64 (tk : Int)] 2)) := bl_al (bl_refl _) _
            have hrow7 := ownsRow_below hrow6 hal
            have hrow7H := Lib.hid hrow7
            go_wp2_with (at_builtin; refine wpList_append_own_at _ rfl _ _ 25 rfl (b + 1) 2 i1 (.int .i64 0) 1 8 Tryd.underlying25 hi' hz0' hz1' hz2' rfl (by decide) (.slice A (k + 1) c) (k + 1) (numsT ts.length (k + 1)) rfl hrow7H.out ⟨w6.heap.size, 0, none⟩ 1 1 [.int .i64 (tk : Int)] rfl rfl (cell_one_new _ _ _) (fun x hx => by simp at hx; subst hx; rfl) (by unfold maxLen; omega) (by omega) (by simp; omega) ?_; intro v9 w9 hown9 hgrow9 hat9 hat9b; obtain ⟨A9, c9, rfl⟩ := ownsRow_form hown9; have hM8 : SkX w9 b (gs, ts ++ [tF gs] ++ tCs gs l h s k ++ [tlG gs (8, k, 0) [some (0, va, 0), some (7, k + 1, 0), none, some (7, k, 0)]]) (fun q => (Value.slice A9 (k + 1 + 1) c9).ownBlock = some q) := (by
                have h1 := ((hM6.below hal).clear_ (Y := fun q => (Value.slice A (k + 1) c).ownBlock = some q ∨ (w6.alloc (Obj.cells #[.int .i64 (tk : Int)] 2)).heap.size ≤ q) (fun g e => e)).grown hgrow9 (fun g e => ⟨.inl e, by have := (hXbH.out g e).1; omega⟩)
                refine h1.clear_ (fun g e => .inl ?_)
                first
                  | (rcases hat9b with h2 | h2
                     · exact .inl (h2.symm.trans e)
                     · rw [h2] at e
                       injection e with e
                       exact .inr (by omega))
                  | (rcases hat9 with h2 | h2
                     · exact .inl (h2.symm.trans e)
                     · rw [h2] at e
                       injection e with e
                       exact .inr (by omega))); have hlo : ∀ g, (Value.slice A (k + 1) c).ownBlock = some g → b + 1 ≤ g := (fun g e => (hXbH.out g e).1); have bw8 := (((hbw.out.trans (jb.mono (show b ≤ wr.heap.size by omega))).trans hB6).trans (hal.mono (show b ≤ w6.heap.size by omega))); have hM9 := Lib.hid hM8; have hrow9 := Lib.hid (show w9.ownsRow (b + 1) 2 1 (.slice A9 (k + 1 + 1) c9) (k + 1 + 1) (numsT ts.length (k + 1 + 1)) by rw [numsT_succ, htkH.out]; exact hown9); have bw9 := Lib.hid (bw8.grown hgrow9 (by have := bw8.size; omega) (fun g e => by have := hlo g e; omega)); clear hown9 hgrow9 hat9 hat9b hM8 bw8 hlo hM6 hF6 hB6 jb hM hrow hbw hs6 hj2 hXbH hL htkH hrow6 hrow7 hrow7H hal)
            go_roundg (n - (k + 1))
            case measure => omega
            case rel => exact ⟨k + 1, A9, c9, by omega, (by have h9 := hk1H.out; rw [← h9]), rfl, by rw [tCs, ← List.append_assoc, show tC gs l h s k = tlG gs (8, k, 0) [some (0, va, 0), some (7, k + 1, 0), none, some (7, k, 0)] by unfold tC; rw [hcode.out]]; exact hM9, hrow9, bw9⟩
        · obtain rfl : k = n := by omega
          obtain ⟨dk, hdk⟩ : ∃ s, decN k = s := ⟨_, rfl⟩
          have zdk : dk.size ≤ 3 := by rw [← hdk]; exact decN_size (by omega)
          have hdkH := Lib.hid hdk
          obtain ⟨nzk, hnzk⟩ : ∃ s : ByteArray, (⟨#[122]⟩ : ByteArray) ++ dk = s := ⟨_, rfl⟩
          have qnzk := cat_at hnzk (Nat.le_trans (Nat.add_le_add (show ByteArray.size _ ≤ 1 by first | assumption | decide) (show ByteArray.size _ ≤ 3 by first | assumption | decide)) (by decide))
          have kzk := Lib.hid (NmG.of (c := (7, k, 0)) (s := nzk) (in_gU (by simp <;> omega)) (by rw [← hnzk, ← hdk]; rfl))
          obtain ⟨tk, htk⟩ : ∃ tk : Nat, ts.length + (k + 1) = tk := ⟨_, rfl⟩
          have hL := Lib.hid (show (ts ++ [tF gs] ++ tCs gs l h s k).length = tk by simp only [List.length_append, List.length_cons, List.length_nil, len_tCs]; omega)
          have hts80' := hts80.out
          have htkb : tk ≤ 920 := by omega
          have htkH := Lib.hid htk
          have hfr := Lib.hid ((hNr.out k).fresh (d := (9, 0, 0)) (nm := ⟨#[108, 97, 115, 116]⟩) (fun c hc => ⟨in_tU (by unfold LRw at hc; omega), fun e => by subst e; unfold LRw at hc; simp at hc⟩) (in_tU (by simp)) kZ.out.eq)
          have hXb : ∀ g, (Value.slice A (k + 1) c).ownBlock = some g → b + 1 ≤ g ∧ g < wr.heap.size := fun g e => hrow.out.lt g e
          have hXbH := Lib.hid hXb
          clear hnzk htk hdk hXb
          have jb : Below wr.heap.size wr wr := bl_refl wr
          go_wp2_with fail
          refine (lDecimal_n (u := k) _ (by omega) hdkH.out).mono ?_
          rintro e w1 ⟨rfl, hb⟩
          replace jb := jb.trans (hb.mono jb.size)
          clear hb
          go_wp2_with fail
          refine (stileX_cd (gs := gs) (c := (9, 0, 0)) (hM.out.below jb) (fun g e => Nat.lt_of_lt_of_le (hXbH.out g e).2 jb.size) kZ.out.eq (sd_some kbr.out.eq) (sd_none hem.out) (sd_none hem.out) (sd_some kzk.out.eq) hfr.out hgl hL.out (by omega)).mono ?_
          rintro e w6 ⟨rfl, hM6, hF6, hB6⟩
          have hrow6 := ownsRow_far (ownsRow_below hrow.out jb) hF6 (by decide)
          have hs6 := hB6.size
          have hj2 := jb.size
          have hal : Below w6.heap.size w6 (w6.alloc (Obj.cells #[.int .i64 (tk : Int)] 2)) := bl_al (bl_refl _) _
          have hrow7 := ownsRow_below hrow6 hal
          have hrow7H := Lib.hid hrow7
          have hM6H := Lib.hid (hM6.below hal)
          have bw6 := Lib.hid (((hbw.out.trans (jb.mono (show b ≤ wr.heap.size by omega))).trans hB6).trans (hal.mono (show b ≤ w6.heap.size by omega)))
          go_wp2_with (at_builtin; refine wpList_append_own_at _ rfl _ _ 25 rfl (b + 1) 2 i1 (.int .i64 0) 1 8 Tryd.underlying25 hi' hz0' hz1' hz2' rfl (by decide) (.slice A (k + 1) c) (k + 1) (numsT ts.length (k + 1)) rfl hrow7H.out ⟨w6.heap.size, 0, none⟩ 1 1 [.int .i64 (tk : Int)] rfl rfl (cell_one_new _ _ _) (fun x hx => by simp at hx; subst hx; rfl) (by unfold maxLen; omega) (by omega) (by simp; omega) ?_; intro v9 w9 hown9 hgrow9 hat9 hat9b; obtain ⟨A9, c9, rfl⟩ := ownsRow_form hown9; have hown9H := Lib.hid hown9; have hgrow9H := Lib.hid hgrow9; clear hown9 hgrow9 hat9 hat9b)
          have hlo : ∀ g, (Value.slice A (k + 1) c).ownBlock = some g → b + 1 ≤ g := fun g e => (hXbH.out g e).1
          have hM8 : Sk w9 b (gs, ts ++ [tF gs] ++ tCs gs l h s k ++ [tZ gs k]) := by
            have h1 := ((hM6H.out).clear_ (Y := fun q => (Value.slice A (k + 1) c).ownBlock = some q ∨ (w6.alloc (Obj.cells #[.int .i64 (tk : Int)] 2)).heap.size ≤ q) (fun g e => e)).grown hgrow9H.out (fun g e => ⟨.inl e, by have := hlo g e; omega⟩)
            exact h1.clear_ (fun g e => e.elim)
          have hrow9 : w9.ownsRow (b + 1) 2 1 (.slice A9 (k + 1 + 1) c9) (k + 1 + 1) (numsT ts.length (k + 1 + 1)) := by rw [numsT_succ, htkH.out]; exact hown9H.out
          have bw9 := Lib.hid (bw6.out.grown hgrow9H.out (by have := bw6.out.size; omega) (fun g e => by have := hlo g e; omega))
          obtain ⟨g9, rfl⟩ : ∃ g, A9 = some ⟨g, 0, none⟩ := by
            rcases hrow9.2 with ⟨_, h0⟩ | ⟨g, cap, cur, hv, _⟩
            · omega
            · injection hv with e; exact ⟨g, e⟩
          have hg9 := (hrow9.lt g9 rfl).2
          have hrow9H := Lib.hid hrow9
          obtain ⟨A1, ca, B2, cb, us, hA9⟩ := hM8
          obtain ⟨tt, htt⟩ : ∃ tt, ts ++ rowT gs l h s = tt := ⟨_, rfl⟩
          have htt2 : ts ++ [tF gs] ++ tCs gs l h s k ++ [tZ gs k] = tt := by
            rw [← htt]; unfold rowT; rw [htl.out, ← List.append_assoc, ← List.append_assoc]
          rw [htt2] at hA9
          obtain ⟨ng, hng⟩ : ∃ ng, gs.length = ng := ⟨_, rfl⟩
          obtain ⟨nt, hnt⟩ : ∃ nt, tt.length = nt := ⟨_, rfl⟩
          have z0 := hA9.bx.cell 0 _ rfl
          have z1 := hA9.bx.cell 1 _ rfl
          have lz := hA9.bx.lt
          simp only at z0 z1
          rw [hng] at z0
          rw [hnt] at z1
          obtain ⟨m, hm⟩ : ∃ m, k + 1 + 1 = m := ⟨_, rfl⟩
          have hmb : m ≤ 14 := by omega
          rw [hm] at hrow9 ⊢
          have hrd : ∀ i : Nat, i < m → w9.cell? ⟨g9, i, none⟩ = some (.int .i64 ((ts.length + i : Nat) : Int)) := fun i hi => (hrow9.cellAt i (by omega)).trans (numsT_get hi)
          refine (system_any b g9 ts.length m c9 A1 B2 ng nt ca cb w9 lz z0 z1 hg9 hrd (by omega)).mono ?_
          rintro e w10 ⟨C, cc, rfl, hown10, hb10⟩
          have hS := Lib.hid (show machS Q S ms l h s = ⟨gs, tt, seedP ts.length m, 2⟩ by rw [machS, htsH.out, htl.out, hgsH.out, htt, show k + 2 = m from hm])
          have bS10 := Lib.hid ((bSB.out.belowB (by omega : w.heap.size + 1 + 1 < b) bw9.out).below hb10)
          have hbw10 := Lib.hid (hkB.out.trans ((bw9.out.trans (hb10.mono (by omega))).mono hwbz))
          have hA10 := Lib.hid (show SkAt w10 b A1 ca B2 cb us (gs, tt) (fun _ => False) from hA9.below hb10)
          have hown10H := Lib.hid hown10
          have hsz9 := hbw10.out.size
          have hs9 : b < w9.heap.size := lz
          have r0 := bS10.out.cell 0 _ rfl
          have r1 := bS10.out.cell 1 _ rfl
          have r2 := bS10.out.cell 2 _ rfl
          have r3 := bS10.out.cell 3 _ rfl
          have rf := bS10.out.froz
          have lr := bS10.out.lt
          have hngH := Lib.hid hng
          have hntH := Lib.hid hnt
          clear hown10 hb10 hA9 hrow9 hrd z0 z1 lz hng hnt htt2 htt hm hrow9H hown9H hgrow9H hM6H hrow7H hrow7 hrow6 hM6 hF6 hB6 hM hrow hbw p0 p1 p2 lp hszl
          go_wp2
          refine bodyPost_ret (v := .tuple #[.agg #[.slice A1 ng ca, .slice B2 nt cb, .slice C m cc, .int .i64 2], .int .i64 0]) (by simp only [results, Tryd.results6]; go_simp) rfl ?_
          rw [← hr.out, hS.out]
          have hn := hngH.out
          subst hn
          have hn := hntH.out
          subst hn
          have hxl : (seedP ts.length m).length = m := by simp [seedP]
          have hz : w.heap.size + 1 + 1 < w.heap.size + 3 := by omega
          refine ⟨A1, B2, C, ca, cb, cc, us, ?_, ?_, ?_⟩
          · show _ = Ending.returned (.tuple #[.agg #[.slice A1 gs.length ca, .slice B2 tt.length cb, .slice C (seedP ts.length m).length cc, .int .i64 2], .int .i64 0])
            rw [hxl]
          · have hgl : w10.ownsRow (w.heap.size + 3) 87 2 (.slice A1 gs.length ca) gs.length (flatC encGl gs) := ownsRow_lo hA10.out.gl (by omega)
            have hti : OwnT w10 (w.heap.size + 3) 91 2 (.slice B2 tt.length cb) us tt := hA10.out.ti.rebase (by omega)
            have hpl : w10.ownsRow (w.heap.size + 3) 95 3 (.slice C (seedP ts.length m).length cc) (seedP ts.length m).length (plCells (seedP ts.length m)) := by
              rw [hxl]; exact ownsRow_lo hown10H.out (by omega)
            refine OwnSy.of (base := w.heap.size + 3) (by omega) (by simp; omega) (row_set4 hgl hz _ _ _ _) (hti.set4 hz _ _ _ _) (row_set4 hpl hz _ _ _ _) ?_
            have := machS_four Q S ms l h s
            rw [hS.out] at this
            exact this
          · have hz2 : w.heap.size ≤ w.heap.size + 1 + 1 := by omega
            exact (((hbw10.out.setCell (p := ⟨w.heap.size + 1 + 1, 0, none⟩) hz2 _).setCell (p := ⟨w.heap.size + 1 + 1, 1, none⟩) hz2 _).setCell (p := ⟨w.heap.size + 1 + 1, 2, none⟩) hz2 _).setCell (p := ⟨w.heap.size + 1 + 1, 3, none⟩) hz2 _
end Go.Proofs.YtkiamhpapkgboaaDoor
