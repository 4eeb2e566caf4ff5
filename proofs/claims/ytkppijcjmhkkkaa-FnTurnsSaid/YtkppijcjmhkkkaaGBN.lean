import Derived.Test.YtkppijcjmhkkkaaGBM
set_option linter.unusedSimpArgs false
set_option linter.unusedVariables false
/- Walks: two shapes compared, the symmetries of a shape. -/


namespace Go.Proofs.Ytkppijcjmhkkkaa
open Go.RowKit
attribute [local go_sem] BelowBy.cell BelowBy.cell_drew stillUpon givesUpon

theorem cell_one_newU (w : World) (a : Value) (t : TypeId) : ∀ j u, [a][j]? = some u → (w.alloc (Obj.cells #[a] t)).cell? ((⟨w.heap.size, 0, none⟩ : Addr).add j) = some u := by
  intro j u hj
  match j, hj with
  | 0, hj => injection hj with hj; subst hj; show World.cell? _ ⟨_, _, _⟩ = _; go_simp
theorem infoIn : (Try.prog.info? 2).map (fun i => (i.zero, i.size, i.bytes)) = some (some (.int .i64 0), 1, 8) := by kernel_rfl
set_option maxRecDepth 100000 in
set_option maxHeartbeats 1000000 in
theorem EqualPt_dec {A B : Option Addr} {n c c2 : Nat} {ps qs : List Pt} {w : World} (h : RdSl 2 RPt w A n ps) (h2 : RdSl 2 RPt w B n qs) (hn : n ≤ 1000000) :
    Calls Try.prog 32 #[.slice A n c, .slice B n c2] w fun e w' => e = .returned (.bool (decide (ps = qs))) ∧ Below w.heap.size w w' := by
  have hH := Lib.hid h
  have hH2 := Lib.hid h2
  clear h h2
  go_enter Try.func32, Try.ntmps32
  go_wp2
  go_loopg [13] n (fun g i wr => ∃ j : Nat, j + g = n ∧ i = .int .i64 (j : Int) ∧ Hid (∀ k, k < j → ps[k]? = qs[k]?) ∧ Hid (Below w.heap.size w wr))
  case atStart => exact ⟨0, by omega, rfl, Lib.hid (fun k hk => by omega), Lib.hid (bl_refl _)⟩
  case round =>
    obtain ⟨j, hj, rfl, hsame, hbw⟩ := hrel
    by_cases hjn : j < n
    · have h := hH.out.below RPt.stable hbw.out
      have h2 := hH2.out.below RPt.stable hbw.out
      obtain ⟨e, he⟩ := h.get hjn
      obtain ⟨f, hf⟩ := h2.get hjn
      obtain ⟨bf, of_, hFe, hbf, hcf⟩ := h.ptr (by omega)
      obtain ⟨bg, og, hGe, hbg, hcg⟩ := h2.ptr (by omega)
      obtain ⟨d0, d1⟩ := hcf j e he
      obtain ⟨f0, f1⟩ := hcg j f hf
      subst hFe
      subst hGe
      have hjI : (j : Int) < (n : Int) := by omega
      have hj0 : (0 : Int) ≤ (j : Int) := by omega
      have heH := Lib.hid he
      have hfH := Lib.hid hf
      clear hcf hcg h h2 he hf
      by_cases hef : e = f
      · subst hef
        go_wp2
        refine wp_region_ord [(0, .q), (1, .q), (2, .q), (3, .q), (4, .q), (5, .q), (6, .q), (7, .q), (8, .q)] (by kernel_rfl) (by kernel_rfl) ?_
        simp only [pick, List.filterMap_cons, List.filterMap_nil, List.getElem?_toArray, List.getElem?_cons_zero, List.getElem?_cons_succ, Option.map_some]
        repeat (first
          | ((with_reducible refine wpD_p (fun K hK => ?_)); go_simp; refine hK _ ?_; clear hK K)
          | ((with_reducible refine wpD_q (fun K hK => ?_)); go_simp; (first | refine hK _ ?_ | (go_bits; refine hK _ ?_) | (go_bits; go_simp; refine hK _ ?_)); clear hK K)
          | ((with_reducible refine wpD_g (fun K hK => ?_)); go_simp; refine hK _ _ ?_; clear hK K)
          | ((with_reducible refine wpD_g (fun K hK => ?_)); go_simp; refine ⟨Grew.of_alloc _, hK _ _ ?_⟩; clear hK K))
        with_reducible refine wpD_nil ?_
        go_wp2
        go_roundg (n - (j + 1))
        case measure => omega
        case rel => exact ⟨j + 1, by omega, by go_num, Lib.hid (fun k hk => (by
          rcases Nat.lt_succ_iff_lt_or_eq.1 hk with h | h
          · exact hsame.out k h
          · rw [h, heH.out, hfH.out])), Lib.hid (bl_dr hbw.out)⟩
      · have hneq := Lib.hid (show ¬ ps = qs from fun h5 => by
          have h6 := heH.out
          rw [h5, hfH.out] at h6
          injection h6 with h6
          exact hef h6.symm)
        by_cases hx : e.x = f.x
        · have hy : ¬ e.y = f.y := fun h => hef (by cases e; cases f; simp_all)
          have hy' : (e.y == f.y) = false := by simpa using hy
          have hx' : (e.x == f.x) = true := by simpa using hx
          rw [hx] at d0
          clear hef
          go_wp2
          refine wp_region_ord [(0, .q), (1, .q), (2, .q), (3, .q), (4, .q), (5, .q), (6, .q), (7, .q), (8, .q)] (by kernel_rfl) (by kernel_rfl) ?_
          simp only [pick, List.filterMap_cons, List.filterMap_nil, List.getElem?_toArray, List.getElem?_cons_zero, List.getElem?_cons_succ, Option.map_some]
          repeat (first
            | ((with_reducible refine wpD_p (fun K hK => ?_)); go_simp; refine hK _ ?_; clear hK K)
            | ((with_reducible refine wpD_q (fun K hK => ?_)); go_simp; (first | refine hK _ ?_ | (go_bits; refine hK _ ?_) | (go_bits; go_simp; refine hK _ ?_)); clear hK K)
            | ((with_reducible refine wpD_g (fun K hK => ?_)); go_simp; refine hK _ _ ?_; clear hK K)
            | ((with_reducible refine wpD_g (fun K hK => ?_)); go_simp; refine ⟨Grew.of_alloc _, hK _ _ ?_⟩; clear hK K))
          with_reducible refine wpD_nil ?_
          go_wp2
          go_ret
          exact ⟨ret_bool (decide_eq_false hneq.out).symm, bl_dr hbw.out⟩
        · have hx' : (e.x == f.x) = false := by simpa using hx
          clear hef
          go_wp2
          refine wp_region_ord [(0, .q), (1, .q), (2, .q), (3, .q), (4, .q), (5, .q), (6, .q), (7, .q), (8, .q)] (by kernel_rfl) (by kernel_rfl) ?_
          simp only [pick, List.filterMap_cons, List.filterMap_nil, List.getElem?_toArray, List.getElem?_cons_zero, List.getElem?_cons_succ, Option.map_some]
          repeat (first
            | ((with_reducible refine wpD_p (fun K hK => ?_)); go_simp; refine hK _ ?_; clear hK K)
            | ((with_reducible refine wpD_q (fun K hK => ?_)); go_simp; (first | refine hK _ ?_ | (go_bits; refine hK _ ?_) | (go_bits; go_simp; refine hK _ ?_)); clear hK K)
            | ((with_reducible refine wpD_g (fun K hK => ?_)); go_simp; refine hK _ _ ?_; clear hK K)
            | ((with_reducible refine wpD_g (fun K hK => ?_)); go_simp; refine ⟨Grew.of_alloc _, hK _ _ ?_⟩; clear hK K))
          with_reducible refine wpD_nil ?_
          go_wp2
          go_ret
          exact ⟨ret_bool (decide_eq_false hneq.out).symm, bl_dr hbw.out⟩
    · obtain rfl : j = n := by omega
      have hjE : ¬ (j : Int) < (j : Int) := by omega
      have hyes := Lib.hid (show ps = qs by
        apply List.ext_getElem?
        intro k
        by_cases hk : k < j
        · exact hsame.out k hk
        · rw [List.getElem?_eq_none (by rw [hH.out.len]; omega), List.getElem?_eq_none (by rw [hH2.out.len]; omega)])
      go_wp2
      go_ret
      exact ⟨ret_bool (decide_eq_true hyes.out).symm, hbw.out⟩
/-- the symmetries below m -/
def symN (ps : List Pt) (m : Nat) : List Nat := (List.range m).filter fun k => decide (turnP k ps = nf ps)
theorem symN_yes {ps : List Pt} {m : Nat} (h : turnP m ps = nf ps) : symN ps (m + 1) = symN ps m ++ [m] := by
  unfold symN; rw [List.range_succ, List.filter_append]; simp [h]
theorem symN_no {ps : List Pt} {m : Nat} (h : ¬ turnP m ps = nf ps) : symN ps (m + 1) = symN ps m := by
  unfold symN; rw [List.range_succ, List.filter_append]; simp [h]
theorem symN_le (ps : List Pt) (m : Nat) : (symN ps m).length ≤ m := by
  have := List.length_filter_le (fun k => decide (turnP k ps = nf ps)) (List.range m)
  rw [List.length_range] at this
  exact this
set_option maxRecDepth 100000 in
set_option maxHeartbeats 4000000 in
theorem SymmetriesOf_any {A : Option Addr} {n c M : Nat} {ps : List Pt} {w : World} (h : RdSl 2 RPt w A n ps) (ho : ∀ s, s < 8 → TnOk ps n s) (hsh : shapeB ps = true) (hM : (symL ps).length = M) :
    Calls Try.prog 17 #[.slice A n c] w fun e w' => ∃ B c', e = .returned (.tuple #[.slice B M c', .int .i64 0]) ∧ Below w.heap.size w w' := by
  obtain ⟨iI, hI, hI0, hI1, hI2⟩ := info_parts infoIn
  have ho0 := ho 0 (by omega)
  have hn25 := ho0.n25
  have hn1 := ho0.pos
  have hnr := Lib.hid (show ∀ p ∈ ps, (-30 ≤ p.x ∧ p.x ≤ 30) ∧ (-30 ≤ p.y ∧ p.y ≤ 30) from fun p hp => by have := ho0.nr p hp; omega)
  have hnf := Lib.hid (home_nf ho0.srt)
  have hH := Lib.hid h
  have hoH := Lib.hid ho
  have hshH := Lib.hid hsh
  have hMH := Lib.hid hM
  clear h ho hsh ho0 hM
  go_enter Try.func17, Try.ntmps17
  go_wp2_with fail
  refine (shapeCodeB_at hH.out (by omega) hshH.out).mono ?_
  rintro e w1 ⟨rfl, hb1⟩
  have hb1H := Lib.hid hb1
  clear hb1
  go_wp2_with fail
  go_loopg [12, 5] 8 (fun g i v wr => ∃ (m N : Nat), m + g = 8 ∧ i = .int .i64 (m : Int) ∧ N ≤ m ∧ Hid ((symN ps m).length = N) ∧ Hid (wr.ownsRow w.heap.size 2 1 v N (numsV (symN ps m))) ∧ Hid (Below w.heap.size w wr))
  case atStart => exact ⟨0, 0, by omega, rfl, by omega, Lib.hid rfl, Lib.hid (World.ownsRow_nil _ _ _ _), hb1H⟩
  case round =>
    clear hb1H
    obtain ⟨m, N, hm, rfl, hN, hNl, hO, hbw⟩ := hrel
    obtain ⟨A1, c1, rfl⟩ := ownsRow_form hO.out
    by_cases hm8 : m < 8
    · have hmI : (m : Int) < 8 := by omega
      have hR0 := Lib.hid (hH.out.below RPt.stable hbw.out)
      obtain ⟨T, hT⟩ : ∃ T, turnP m ps = T := ⟨_, rfl⟩
      have hTH := Lib.hid hT
      clear hT
      go_wp2_with fail
      refine (turned_any hR0.out (hoH.out m hm8) hTH.out).mono ?_
      rintro _ w2 ⟨B, cB, rfl, hT2, hb2⟩
      have hP := Lib.hid hT2
      have hO2 := Lib.hid (ownsRow_below hO.out hb2)
      have hbw2 := Lib.hid (hbw.out.trans (hb2.mono hbw.out.size))
      replace hR0 := Lib.hid (hR0.out.below RPt.stable hb2)
      clear hT2 hb2 hO hbw
      go_wp2_with fail
      refine (home_any hR0.out hnr.out hn1 (by omega)).mono ?_
      rw [hnf.out]
      rintro _ w3 ⟨E, cE, rfl, hE, hb3⟩
      have hQ := Lib.hid hE
      have hO3 := Lib.hid (ownsRow_below hO2.out hb3)
      have hbw3 := Lib.hid (hbw2.out.trans (hb3.mono hbw2.out.size))
      replace hP := Lib.hid (hP.out.below RPt.stable hb3)
      clear hE hb3 hO2 hbw2
      go_wp2_with fail
      refine (EqualPt_dec hP.out hQ.out (by omega)).mono ?_
      rintro _ w4 ⟨rfl, hb4⟩
      have hO4 := Lib.hid (ownsRow_below hO3.out hb4)
      have hbw4 := Lib.hid (hbw3.out.trans (hb4.mono hbw3.out.size))
      have hs4 := hbw4.out.size
      clear hb4 hO3 hbw3
      by_cases hy : T = nf ps
      · have hd : decide (T = nf ps) = true := decide_eq_true hy
        have hsy := Lib.hid (symN_yes (hTH.out.trans hy))
        have hal : Below w4.heap.size w4 (w4.alloc (Obj.cells #[.int .i64 (m : Int)] 2)) := bl_al (bl_refl _) _
        have hO5 := Lib.hid (ownsRow_below hO4.out hal)
        have halH := Lib.hid hal
        rw [hd]
        clear hd hal hy
        go_wp2_with (at_builtin; refine wpList_append_own_at _ rfl _ _ 37 rfl w.heap.size 2 iI (.int .i64 0) 1 8 Try.underlying37 hI hI0 hI1 hI2 rfl (by decide) (.slice A1 N c1) N (numsV (symN ps m)) rfl hO5.out ⟨w4.heap.size, 0, none⟩ 1 1 [.int .i64 (m : Int)] rfl rfl (cell_one_newU _ _ _) (fun x hx => by simp at hx; subst hx; rfl) (by unfold maxLen; omega) (by omega) (by simp; omega) ?_; intro v9 w9 hown9 hgrow9 h5a h5b; obtain ⟨A9, c9, rfl⟩ := ownsRow_form hown9; have hs9 := halH.out.size; have bw9 := Lib.hid ((hbw4.out.trans (halH.out.mono hs4)).grown hgrow9 (by omega) (fun g e => (hO5.out.lt g e).1)); have hO9 := Lib.hid hown9; clear hown9 hgrow9 h5a h5b hs9)
        go_roundg (8 - (m + 1))
        case measure => omega
        case rel => exact ⟨m + 1, N + 1, by omega, by go_num, by omega, Lib.hid (by rw [hsy.out, List.length_append, hNl.out]; rfl), Lib.hid (by rw [hsy.out, ← numsV_snoc]; exact hO9.out), bw9⟩
      · have hd : decide (T = nf ps) = false := decide_eq_false hy
        have hsy := Lib.hid (symN_no (fun h => hy (hTH.out.symm.trans h)))
        rw [hd]
        clear hd hy
        go_wp2
        go_roundg (8 - (m + 1))
        case measure => omega
        case rel => exact ⟨m + 1, N, by omega, by go_num, by omega, Lib.hid (by rw [hsy.out]; exact hNl.out), Lib.hid (by rw [hsy.out]; exact hO4.out), hbw4⟩
    · obtain rfl : m = 8 := by omega
      have hmI : ¬ (8 : Int) < 8 := by omega
      have hNM : N = M := by rw [← hNl.out, ← hMH.out]; rfl
      subst hNM
      go_wp2
      refine bodyPost_ret (v := .tuple #[.slice A1 N c1, .int .i64 0]) (by simp only [results, Try.results17]; go_simp) rfl ?_
      exact ⟨⟨A1, c1, rfl⟩, hbw.out⟩
end Go.Proofs.Ytkppijcjmhkkkaa
/- Walk: the law on turned shapes. -/

namespace Go.Proofs.Ytkppijcjmhkkkaa
open Go.RowKit
attribute [local go_sem] BelowBy.cell BelowBy.cell_drew stillUpon givesUpon

set_option maxRecDepth 100000 in
set_option maxHeartbeats 8000000 in
theorem FnTurns_any {n n2 c c2 : Nat} {C D : Option Addr} {bs bs2 : List Nat} (w : World) (h : RdSl 1 RBy w C n bs) (h2 : RdSl 1 RBy w D n2 bs2) :
    Calls Try.prog 4 #[.slice C n c, .slice D n2 c2] w fun e w' => e = .returned (.bool true) ∧ Below w.heap.size w w' := by
  have hH := Lib.hid h
  have hBy := Lib.hid h2
  clear h h2
  by_cases hn : 4096 < n
  · have hnH := Lib.hid (show decide (4096 < n) = true from decide_eq_true hn)
    clear hn
    go_enter Try.func4, Try.ntmps4
    go_wp2_with fail
    refine (f6big_at _ hnH.out).mono ?_
    rintro e _ ⟨rfl, rfl⟩
    go_wp2
    go_ret
    exact ⟨rfl, bl_refl _⟩
  have hnH := Lib.hid (show decide (4096 < n) = false from decide_eq_false hn)
  by_cases hm : 4096 < n2
  · have hmH := Lib.hid (show decide (4096 < n2) = true from decide_eq_true hm)
    clear hm hn
    go_enter Try.func4, Try.ntmps4
    go_wp2_with fail
    refine (f6big_at _ hnH.out).mono ?_
    rintro e _ ⟨rfl, rfl⟩
    go_wp2_with fail
    refine (f6big_at _ hmH.out).mono ?_
    rintro e _ ⟨rfl, rfl⟩
    go_wp2
    go_ret
    exact ⟨rfl, bl_refl _⟩
  have hmH := Lib.hid (show decide (4096 < n2) = false from decide_eq_false hm)
  have hnle : n ≤ 1000000 := by omega
  have hmle : n2 ≤ 1000000 := by omega
  clear hm hn
  go_enter Try.func4, Try.ntmps4
  go_wp2_with fail
  refine (f6big_at _ hnH.out).mono ?_
  rintro e _ ⟨rfl, rfl⟩
  go_wp2_with fail
  refine (f6big_at _ hmH.out).mono ?_
  rintro e _ ⟨rfl, rfl⟩
  go_wp2_with fail
  refine (LawShape_any hH.out hnle).mono ?_
  rintro _ w1 ⟨A, N, cN, ps, rfl, hR, hSm, hN1, hN25, hb1⟩
  replace hR := Lib.hid hR
  replace hSm := Lib.hid hSm
  replace hBy := Lib.hid (hBy.out.below RBy.stable hb1)
  have hbw := Lib.hid hb1
  clear hb1 hH
  have hl := Lib.hid hR.out.len
  go_wp2_with fail
  refine (LawPickS_any 8 hBy.out hmle (by omega) (by omega)).mono ?_
  rintro _ w2 ⟨k, rfl, hk8, hj⟩
  try replace hR := Lib.hid (hR.out.below RPt.stable hj)
  try replace hP := Lib.hid (hP.out.below RPt.stable hj)
  try replace hQ := Lib.hid (hQ.out.below RPt.stable hj)
  try replace hU := Lib.hid (hU.out.below RPt.stable hj)
  try replace hV := Lib.hid (hV.out.below RPt.stable hj)
  try replace hBy := Lib.hid (hBy.out.below RBy.stable hj)
  try replace hbw := Lib.hid (hbw.out.trans ((hj).mono hbw.out.size))
  clear hj hBy
  have hN15 := Lib.hid (show Near 15 ps from fun p hp => hSm.out.rng p hp)
  have ho := Lib.hid (show ∀ s, s < 8 → TnOk ps N s from fun s hs => ⟨hl.out, hSm.out.srt, near_of hN15.out (by omega), hN1, hN25, hs⟩)
  have hlp : 0 < ps.length := by rw [hl.out]; exact hN1
  obtain ⟨L, hL⟩ : ∃ L, turnP k ps = L := ⟨_, rfl⟩
  obtain ⟨q1, q2, q3, q4⟩ := turn_all hlp (B := 15) (by omega) hSm.out.srt hN15.out k
  have hsp := Lib.hid (hSm.out.shape (by omega) (by rw [hl.out]; exact hN1) (by rw [hl.out]; omega))
  have hsL := Lib.hid (show shapeB L = true by rw [← hL]; exact (ho.out k hk8).shp)
  obtain ⟨x, hx⟩ : ∃ x, perim ps = x := ⟨_, rfl⟩
  obtain ⟨g, hg⟩ : ∃ g, (holesB ps).length = g := ⟨_, rfl⟩
  have hxL := Lib.hid (show perim L = x by rw [← hL, q3, hx])
  have hgL := Lib.hid (show (holesB L).length = g by rw [← hL, q2, hg])
  have hxe : x % 2 = 0 := by rw [← hx]; exact perim_even hSm.out.srt
  have hmod : Int.tmod (x : Int) 2 = 0 := by
    have h9 : Int.tmod (x : Int) 2 = ((x % 2 : Nat) : Int) := rfl
    rw [h9, hxe]; rfl
  have hoL := Lib.hid (show ∀ s, s < 8 → TnOk L N s from fun s hs => ⟨by rw [← hL, q4, hl.out], by rw [← hL]; exact mapS_sorted _ _, (by
    rw [← hL]
    have h9 := (tp_all hlp (B := 15) (by omega) hSm.out.srt hN15.out k).1
    exact nf_near (map_pos hlp _) h9), hN1, hN25, hs⟩)
  obtain ⟨H, hH⟩ : ∃ H, homeP ps = H := ⟨_, rfl⟩
  have hbk := Lib.hid (show turnP (invS k) L = H by rw [← hL, ← hH, turn_back hlp hSm.out.srt hk8]; exact (home_nf hSm.out.srt).symm)
  obtain ⟨i, hi⟩ : ∃ i, invS k = i := ⟨_, rfl⟩
  rw [hi] at hbk
  have hi8 : i < 8 := by rw [← hi]; exact inv_lt hk8
  obtain ⟨M, hM⟩ : ∃ M, (symL ps).length = M := ⟨_, rfl⟩
  have hM8 : M = 1 ∨ M = 2 ∨ M = 4 ∨ M = 8 := by rw [← hM]; exact sym_count hlp hSm.out.srt
  have hrp := Lib.hid (show ∀ p ∈ ps, (-29 ≤ p.x ∧ p.x ≤ 29) ∧ (-29 ≤ p.y ∧ p.y ≤ 29) from fun p hp => by have := hN15.out p hp; omega)
  have hN6 : N ≤ 1000000 := by omega
  replace hL := Lib.hid hL
  replace hx := Lib.hid hx
  replace hg := Lib.hid hg
  replace hH := Lib.hid hH
  replace hi := Lib.hid hi
  replace hM := Lib.hid hM
  clear q1 q2 q3 q4 hSm hlp
  go_wp2_with fail
  refine (TurnShape_any hR.out (ho.out k hk8) hsp.out hL.out).mono ?_
  rintro _ w3 ⟨B, cB, rfl, hP, hj⟩
  replace hP := Lib.hid hP
  try replace hR := Lib.hid (hR.out.below RPt.stable hj)
  try replace hP := Lib.hid (hP.out.below RPt.stable hj)
  try replace hQ := Lib.hid (hQ.out.below RPt.stable hj)
  try replace hU := Lib.hid (hU.out.below RPt.stable hj)
  try replace hV := Lib.hid (hV.out.below RPt.stable hj)
  try replace hBy := Lib.hid (hBy.out.below RBy.stable hj)
  try replace hbw := Lib.hid (hbw.out.trans ((hj).mono hbw.out.size))
  clear hj
  go_wp2_with fail
  refine (sTurnShape_any hR.out (ho.out k hk8) hsp.out hL.out).mono ?_
  rintro _ w4 ⟨E, cE, rfl, hQ, hj⟩
  replace hQ := Lib.hid hQ
  try replace hR := Lib.hid (hR.out.below RPt.stable hj)
  try replace hP := Lib.hid (hP.out.below RPt.stable hj)
  try replace hQ := Lib.hid (hQ.out.below RPt.stable hj)
  try replace hU := Lib.hid (hU.out.below RPt.stable hj)
  try replace hV := Lib.hid (hV.out.below RPt.stable hj)
  try replace hBy := Lib.hid (hBy.out.below RBy.stable hj)
  try replace hbw := Lib.hid (hbw.out.trans ((hj).mono hbw.out.size))
  clear hj
  go_wp2_with fail
  refine (sSameShape_any hP.out hQ.out hN6).mono ?_
  rintro _ w5 ⟨rfl, hj⟩
  try replace hR := Lib.hid (hR.out.below RPt.stable hj)
  try replace hP := Lib.hid (hP.out.below RPt.stable hj)
  try replace hQ := Lib.hid (hQ.out.below RPt.stable hj)
  try replace hU := Lib.hid (hU.out.below RPt.stable hj)
  try replace hV := Lib.hid (hV.out.below RPt.stable hj)
  try replace hBy := Lib.hid (hBy.out.below RBy.stable hj)
  try replace hbw := Lib.hid (hbw.out.trans ((hj).mono hbw.out.size))
  clear hj hP
  go_wp2_with fail
  refine (PerimeterOf_any hR.out hsp.out hx.out).mono ?_
  rintro _ w7 ⟨rfl, hj⟩
  try replace hR := Lib.hid (hR.out.below RPt.stable hj)
  try replace hP := Lib.hid (hP.out.below RPt.stable hj)
  try replace hQ := Lib.hid (hQ.out.below RPt.stable hj)
  try replace hU := Lib.hid (hU.out.below RPt.stable hj)
  try replace hV := Lib.hid (hV.out.below RPt.stable hj)
  try replace hBy := Lib.hid (hBy.out.below RBy.stable hj)
  try replace hbw := Lib.hid (hbw.out.trans ((hj).mono hbw.out.size))
  clear hj
  go_wp2_with fail
  refine (PerimeterOf_any hQ.out hsL.out hxL.out).mono ?_
  rintro _ w8 ⟨rfl, hj⟩
  try replace hR := Lib.hid (hR.out.below RPt.stable hj)
  try replace hP := Lib.hid (hP.out.below RPt.stable hj)
  try replace hQ := Lib.hid (hQ.out.below RPt.stable hj)
  try replace hU := Lib.hid (hU.out.below RPt.stable hj)
  try replace hV := Lib.hid (hV.out.below RPt.stable hj)
  try replace hBy := Lib.hid (hBy.out.below RBy.stable hj)
  try replace hbw := Lib.hid (hbw.out.trans ((hj).mono hbw.out.size))
  clear hj
  go_wp2_with fail
  refine (HolesN_any hR.out hsp.out hg.out).mono ?_
  rintro _ w9 ⟨F, cF, rfl, hj⟩
  try replace hR := Lib.hid (hR.out.below RPt.stable hj)
  try replace hP := Lib.hid (hP.out.below RPt.stable hj)
  try replace hQ := Lib.hid (hQ.out.below RPt.stable hj)
  try replace hU := Lib.hid (hU.out.below RPt.stable hj)
  try replace hV := Lib.hid (hV.out.below RPt.stable hj)
  try replace hBy := Lib.hid (hBy.out.below RBy.stable hj)
  try replace hbw := Lib.hid (hbw.out.trans ((hj).mono hbw.out.size))
  clear hj
  go_wp2_with fail
  refine (HolesN_any hQ.out hsL.out hgL.out).mono ?_
  rintro _ w10 ⟨G, cG, rfl, hj⟩
  try replace hR := Lib.hid (hR.out.below RPt.stable hj)
  try replace hP := Lib.hid (hP.out.below RPt.stable hj)
  try replace hQ := Lib.hid (hQ.out.below RPt.stable hj)
  try replace hU := Lib.hid (hU.out.below RPt.stable hj)
  try replace hV := Lib.hid (hV.out.below RPt.stable hj)
  try replace hBy := Lib.hid (hBy.out.below RBy.stable hj)
  try replace hbw := Lib.hid (hbw.out.trans ((hj).mono hbw.out.size))
  clear hj
  go_wp2_with fail
  refine (SymmetriesOf_any hR.out ho.out hsp.out hM.out).mono ?_
  rintro _ w11 ⟨I, cI, rfl, hj⟩
  try replace hR := Lib.hid (hR.out.below RPt.stable hj)
  try replace hP := Lib.hid (hP.out.below RPt.stable hj)
  try replace hQ := Lib.hid (hQ.out.below RPt.stable hj)
  try replace hU := Lib.hid (hU.out.below RPt.stable hj)
  try replace hV := Lib.hid (hV.out.below RPt.stable hj)
  try replace hBy := Lib.hid (hBy.out.below RBy.stable hj)
  try replace hbw := Lib.hid (hbw.out.trans ((hj).mono hbw.out.size))
  clear hj
  by_cases hk4 : k < 4
  · have hk4I : (k : Int) < 4 := by omega
    have hii := hi.out
    unfold invS at hii
    rw [if_pos hk4] at hii
    obtain ⟨u, hu⟩ : ∃ u, 4 - k = u := ⟨_, rfl⟩
    have wu : IntKind.i64.wrap (4 - (k : Int)) = (u : Int) := by rw [wrapFs (by omega) (by omega)]; omega
    have hum : Int.tmod (u : Int) 4 = (i : Int) := by
      have h9 : Int.tmod (u : Int) 4 = ((u % 4 : Nat) : Int) := rfl
      rw [h9, ← hu, hii]
    clear hii hu
    rcases hM8 with rfl | rfl | rfl | rfl
    · go_wp2_with fail
      refine (TurnShape_any hQ.out (hoL.out i hi8) hsL.out hbk.out).mono ?_
      rintro _ w12 ⟨U, cU, rfl, hU, hj⟩
      replace hU := Lib.hid hU
      try replace hR := Lib.hid (hR.out.below RPt.stable hj)
      try replace hP := Lib.hid (hP.out.below RPt.stable hj)
      try replace hQ := Lib.hid (hQ.out.below RPt.stable hj)
      try replace hU := Lib.hid (hU.out.below RPt.stable hj)
      try replace hV := Lib.hid (hV.out.below RPt.stable hj)
      try replace hBy := Lib.hid (hBy.out.below RBy.stable hj)
      try replace hbw := Lib.hid (hbw.out.trans ((hj).mono hbw.out.size))
      clear hj
      go_wp2_with fail
      refine (HomeShape_any hR.out hsp.out hrp.out hH.out).mono ?_
      rintro _ w13 ⟨V, cV, rfl, hV, hj⟩
      replace hV := Lib.hid hV
      try replace hR := Lib.hid (hR.out.below RPt.stable hj)
      try replace hP := Lib.hid (hP.out.below RPt.stable hj)
      try replace hQ := Lib.hid (hQ.out.below RPt.stable hj)
      try replace hU := Lib.hid (hU.out.below RPt.stable hj)
      try replace hV := Lib.hid (hV.out.below RPt.stable hj)
      try replace hBy := Lib.hid (hBy.out.below RBy.stable hj)
      try replace hbw := Lib.hid (hbw.out.trans ((hj).mono hbw.out.size))
      clear hj
      go_wp2_with fail
      refine (sSameShape_any hU.out hV.out hN6).mono ?_
      rintro _ w14 ⟨rfl, hj⟩
      try replace hR := Lib.hid (hR.out.below RPt.stable hj)
      try replace hP := Lib.hid (hP.out.below RPt.stable hj)
      try replace hQ := Lib.hid (hQ.out.below RPt.stable hj)
      try replace hU := Lib.hid (hU.out.below RPt.stable hj)
      try replace hV := Lib.hid (hV.out.below RPt.stable hj)
      try replace hBy := Lib.hid (hBy.out.below RBy.stable hj)
      try replace hbw := Lib.hid (hbw.out.trans ((hj).mono hbw.out.size))
      clear hj
      go_wp2
      go_ret
      exact ⟨rfl, hbw.out⟩
    · go_wp2_with fail
      refine (TurnShape_any hQ.out (hoL.out i hi8) hsL.out hbk.out).mono ?_
      rintro _ w12 ⟨U, cU, rfl, hU, hj⟩
      replace hU := Lib.hid hU
      try replace hR := Lib.hid (hR.out.below RPt.stable hj)
      try replace hP := Lib.hid (hP.out.below RPt.stable hj)
      try replace hQ := Lib.hid (hQ.out.below RPt.stable hj)
      try replace hU := Lib.hid (hU.out.below RPt.stable hj)
      try replace hV := Lib.hid (hV.out.below RPt.stable hj)
      try replace hBy := Lib.hid (hBy.out.below RBy.stable hj)
      try replace hbw := Lib.hid (hbw.out.trans ((hj).mono hbw.out.size))
      clear hj
      go_wp2_with fail
      refine (HomeShape_any hR.out hsp.out hrp.out hH.out).mono ?_
      rintro _ w13 ⟨V, cV, rfl, hV, hj⟩
      replace hV := Lib.hid hV
      try replace hR := Lib.hid (hR.out.below RPt.stable hj)
      try replace hP := Lib.hid (hP.out.below RPt.stable hj)
      try replace hQ := Lib.hid (hQ.out.below RPt.stable hj)
      try replace hU := Lib.hid (hU.out.below RPt.stable hj)
      try replace hV := Lib.hid (hV.out.below RPt.stable hj)
      try replace hBy := Lib.hid (hBy.out.below RBy.stable hj)
      try replace hbw := Lib.hid (hbw.out.trans ((hj).mono hbw.out.size))
      clear hj
      go_wp2_with fail
      refine (sSameShape_any hU.out hV.out hN6).mono ?_
      rintro _ w14 ⟨rfl, hj⟩
      try replace hR := Lib.hid (hR.out.below RPt.stable hj)
      try replace hP := Lib.hid (hP.out.below RPt.stable hj)
      try replace hQ := Lib.hid (hQ.out.below RPt.stable hj)
      try replace hU := Lib.hid (hU.out.below RPt.stable hj)
      try replace hV := Lib.hid (hV.out.below RPt.stable hj)
      try replace hBy := Lib.hid (hBy.out.below RBy.stable hj)
      try replace hbw := Lib.hid (hbw.out.trans ((hj).mono hbw.out.size))
      clear hj
      go_wp2
      go_ret
      exact ⟨rfl, hbw.out⟩
    · go_wp2_with fail
      refine (TurnShape_any hQ.out (hoL.out i hi8) hsL.out hbk.out).mono ?_
      rintro _ w12 ⟨U, cU, rfl, hU, hj⟩
      replace hU := Lib.hid hU
      try replace hR := Lib.hid (hR.out.below RPt.stable hj)
      try replace hP := Lib.hid (hP.out.below RPt.stable hj)
      try replace hQ := Lib.hid (hQ.out.below RPt.stable hj)
      try replace hU := Lib.hid (hU.out.below RPt.stable hj)
      try replace hV := Lib.hid (hV.out.below RPt.stable hj)
      try replace hBy := Lib.hid (hBy.out.below RBy.stable hj)
      try replace hbw := Lib.hid (hbw.out.trans ((hj).mono hbw.out.size))
      clear hj
      go_wp2_with fail
      refine (HomeShape_any hR.out hsp.out hrp.out hH.out).mono ?_
      rintro _ w13 ⟨V, cV, rfl, hV, hj⟩
      replace hV := Lib.hid hV
      try replace hR := Lib.hid (hR.out.below RPt.stable hj)
      try replace hP := Lib.hid (hP.out.below RPt.stable hj)
      try replace hQ := Lib.hid (hQ.out.below RPt.stable hj)
      try replace hU := Lib.hid (hU.out.below RPt.stable hj)
      try replace hV := Lib.hid (hV.out.below RPt.stable hj)
      try replace hBy := Lib.hid (hBy.out.below RBy.stable hj)
      try replace hbw := Lib.hid (hbw.out.trans ((hj).mono hbw.out.size))
      clear hj
      go_wp2_with fail
      refine (sSameShape_any hU.out hV.out hN6).mono ?_
      rintro _ w14 ⟨rfl, hj⟩
      try replace hR := Lib.hid (hR.out.below RPt.stable hj)
      try replace hP := Lib.hid (hP.out.below RPt.stable hj)
      try replace hQ := Lib.hid (hQ.out.below RPt.stable hj)
      try replace hU := Lib.hid (hU.out.below RPt.stable hj)
      try replace hV := Lib.hid (hV.out.below RPt.stable hj)
      try replace hBy := Lib.hid (hBy.out.below RBy.stable hj)
      try replace hbw := Lib.hid (hbw.out.trans ((hj).mono hbw.out.size))
      clear hj
      go_wp2
      go_ret
      exact ⟨rfl, hbw.out⟩
    · go_wp2_with fail
      refine (TurnShape_any hQ.out (hoL.out i hi8) hsL.out hbk.out).mono ?_
      rintro _ w12 ⟨U, cU, rfl, hU, hj⟩
      replace hU := Lib.hid hU
      try replace hR := Lib.hid (hR.out.below RPt.stable hj)
      try replace hP := Lib.hid (hP.out.below RPt.stable hj)
      try replace hQ := Lib.hid (hQ.out.below RPt.stable hj)
      try replace hU := Lib.hid (hU.out.below RPt.stable hj)
      try replace hV := Lib.hid (hV.out.below RPt.stable hj)
      try replace hBy := Lib.hid (hBy.out.below RBy.stable hj)
      try replace hbw := Lib.hid (hbw.out.trans ((hj).mono hbw.out.size))
      clear hj
      go_wp2_with fail
      refine (HomeShape_any hR.out hsp.out hrp.out hH.out).mono ?_
      rintro _ w13 ⟨V, cV, rfl, hV, hj⟩
      replace hV := Lib.hid hV
      try replace hR := Lib.hid (hR.out.below RPt.stable hj)
      try replace hP := Lib.hid (hP.out.below RPt.stable hj)
      try replace hQ := Lib.hid (hQ.out.below RPt.stable hj)
      try replace hU := Lib.hid (hU.out.below RPt.stable hj)
      try replace hV := Lib.hid (hV.out.below RPt.stable hj)
      try replace hBy := Lib.hid (hBy.out.below RBy.stable hj)
      try replace hbw := Lib.hid (hbw.out.trans ((hj).mono hbw.out.size))
      clear hj
      go_wp2_with fail
      refine (sSameShape_any hU.out hV.out hN6).mono ?_
      rintro _ w14 ⟨rfl, hj⟩
      try replace hR := Lib.hid (hR.out.below RPt.stable hj)
      try replace hP := Lib.hid (hP.out.below RPt.stable hj)
      try replace hQ := Lib.hid (hQ.out.below RPt.stable hj)
      try replace hU := Lib.hid (hU.out.below RPt.stable hj)
      try replace hV := Lib.hid (hV.out.below RPt.stable hj)
      try replace hBy := Lib.hid (hBy.out.below RBy.stable hj)
      try replace hbw := Lib.hid (hbw.out.trans ((hj).mono hbw.out.size))
      clear hj
      go_wp2
      go_ret
      exact ⟨rfl, hbw.out⟩
  · have hk4I : ¬ (k : Int) < 4 := by omega
    have hii := hi.out
    unfold invS at hii
    rw [if_neg hk4] at hii
    subst hii
    rcases hM8 with rfl | rfl | rfl | rfl
    · go_wp2_with fail
      refine (TurnShape_any hQ.out (hoL.out k hi8) hsL.out hbk.out).mono ?_
      rintro _ w12 ⟨U, cU, rfl, hU, hj⟩
      replace hU := Lib.hid hU
      try replace hR := Lib.hid (hR.out.below RPt.stable hj)
      try replace hP := Lib.hid (hP.out.below RPt.stable hj)
      try replace hQ := Lib.hid (hQ.out.below RPt.stable hj)
      try replace hU := Lib.hid (hU.out.below RPt.stable hj)
      try replace hV := Lib.hid (hV.out.below RPt.stable hj)
      try replace hBy := Lib.hid (hBy.out.below RBy.stable hj)
      try replace hbw := Lib.hid (hbw.out.trans ((hj).mono hbw.out.size))
      clear hj
      go_wp2_with fail
      refine (HomeShape_any hR.out hsp.out hrp.out hH.out).mono ?_
      rintro _ w13 ⟨V, cV, rfl, hV, hj⟩
      replace hV := Lib.hid hV
      try replace hR := Lib.hid (hR.out.below RPt.stable hj)
      try replace hP := Lib.hid (hP.out.below RPt.stable hj)
      try replace hQ := Lib.hid (hQ.out.below RPt.stable hj)
      try replace hU := Lib.hid (hU.out.below RPt.stable hj)
      try replace hV := Lib.hid (hV.out.below RPt.stable hj)
      try replace hBy := Lib.hid (hBy.out.below RBy.stable hj)
      try replace hbw := Lib.hid (hbw.out.trans ((hj).mono hbw.out.size))
      clear hj
      go_wp2_with fail
      refine (sSameShape_any hU.out hV.out hN6).mono ?_
      rintro _ w14 ⟨rfl, hj⟩
      try replace hR := Lib.hid (hR.out.below RPt.stable hj)
      try replace hP := Lib.hid (hP.out.below RPt.stable hj)
      try replace hQ := Lib.hid (hQ.out.below RPt.stable hj)
      try replace hU := Lib.hid (hU.out.below RPt.stable hj)
      try replace hV := Lib.hid (hV.out.below RPt.stable hj)
      try replace hBy := Lib.hid (hBy.out.below RBy.stable hj)
      try replace hbw := Lib.hid (hbw.out.trans ((hj).mono hbw.out.size))
      clear hj
      go_wp2
      go_ret
      exact ⟨rfl, hbw.out⟩
    · go_wp2_with fail
      refine (TurnShape_any hQ.out (hoL.out k hi8) hsL.out hbk.out).mono ?_
      rintro _ w12 ⟨U, cU, rfl, hU, hj⟩
      replace hU := Lib.hid hU
      try replace hR := Lib.hid (hR.out.below RPt.stable hj)
      try replace hP := Lib.hid (hP.out.below RPt.stable hj)
      try replace hQ := Lib.hid (hQ.out.below RPt.stable hj)
      try replace hU := Lib.hid (hU.out.below RPt.stable hj)
      try replace hV := Lib.hid (hV.out.below RPt.stable hj)
      try replace hBy := Lib.hid (hBy.out.below RBy.stable hj)
      try replace hbw := Lib.hid (hbw.out.trans ((hj).mono hbw.out.size))
      clear hj
      go_wp2_with fail
      refine (HomeShape_any hR.out hsp.out hrp.out hH.out).mono ?_
      rintro _ w13 ⟨V, cV, rfl, hV, hj⟩
      replace hV := Lib.hid hV
      try replace hR := Lib.hid (hR.out.below RPt.stable hj)
      try replace hP := Lib.hid (hP.out.below RPt.stable hj)
      try replace hQ := Lib.hid (hQ.out.below RPt.stable hj)
      try replace hU := Lib.hid (hU.out.below RPt.stable hj)
      try replace hV := Lib.hid (hV.out.below RPt.stable hj)
      try replace hBy := Lib.hid (hBy.out.below RBy.stable hj)
      try replace hbw := Lib.hid (hbw.out.trans ((hj).mono hbw.out.size))
      clear hj
      go_wp2_with fail
      refine (sSameShape_any hU.out hV.out hN6).mono ?_
      rintro _ w14 ⟨rfl, hj⟩
      try replace hR := Lib.hid (hR.out.below RPt.stable hj)
      try replace hP := Lib.hid (hP.out.below RPt.stable hj)
      try replace hQ := Lib.hid (hQ.out.below RPt.stable hj)
      try replace hU := Lib.hid (hU.out.below RPt.stable hj)
      try replace hV := Lib.hid (hV.out.below RPt.stable hj)
      try replace hBy := Lib.hid (hBy.out.below RBy.stable hj)
      try replace hbw := Lib.hid (hbw.out.trans ((hj).mono hbw.out.size))
      clear hj
      go_wp2
      go_ret
      exact ⟨rfl, hbw.out⟩
    · go_wp2_with fail
      refine (TurnShape_any hQ.out (hoL.out k hi8) hsL.out hbk.out).mono ?_
      rintro _ w12 ⟨U, cU, rfl, hU, hj⟩
      replace hU := Lib.hid hU
      try replace hR := Lib.hid (hR.out.below RPt.stable hj)
      try replace hP := Lib.hid (hP.out.below RPt.stable hj)
      try replace hQ := Lib.hid (hQ.out.below RPt.stable hj)
      try replace hU := Lib.hid (hU.out.below RPt.stable hj)
      try replace hV := Lib.hid (hV.out.below RPt.stable hj)
      try replace hBy := Lib.hid (hBy.out.below RBy.stable hj)
      try replace hbw := Lib.hid (hbw.out.trans ((hj).mono hbw.out.size))
      clear hj
      go_wp2_with fail
      refine (HomeShape_any hR.out hsp.out hrp.out hH.out).mono ?_
      rintro _ w13 ⟨V, cV, rfl, hV, hj⟩
      replace hV := Lib.hid hV
      try replace hR := Lib.hid (hR.out.below RPt.stable hj)
      try replace hP := Lib.hid (hP.out.below RPt.stable hj)
      try replace hQ := Lib.hid (hQ.out.below RPt.stable hj)
      try replace hU := Lib.hid (hU.out.below RPt.stable hj)
      try replace hV := Lib.hid (hV.out.below RPt.stable hj)
      try replace hBy := Lib.hid (hBy.out.below RBy.stable hj)
      try replace hbw := Lib.hid (hbw.out.trans ((hj).mono hbw.out.size))
      clear hj
      go_wp2_with fail
      refine (sSameShape_any hU.out hV.out hN6).mono ?_
      rintro _ w14 ⟨rfl, hj⟩
      try replace hR := Lib.hid (hR.out.below RPt.stable hj)
      try replace hP := Lib.hid (hP.out.below RPt.stable hj)
      try replace hQ := Lib.hid (hQ.out.below RPt.stable hj)
      try replace hU := Lib.hid (hU.out.below RPt.stable hj)
      try replace hV := Lib.hid (hV.out.below RPt.stable hj)
      try replace hBy := Lib.hid (hBy.out.below RBy.stable hj)
      try replace hbw := Lib.hid (hbw.out.trans ((hj).mono hbw.out.size))
      clear hj
      go_wp2
      go_ret
      exact ⟨rfl, hbw.out⟩
    · go_wp2_with fail
      refine (TurnShape_any hQ.out (hoL.out k hi8) hsL.out hbk.out).mono ?_
      rintro _ w12 ⟨U, cU, rfl, hU, hj⟩
      replace hU := Lib.hid hU
      try replace hR := Lib.hid (hR.out.below RPt.stable hj)
      try replace hP := Lib.hid (hP.out.below RPt.stable hj)
      try replace hQ := Lib.hid (hQ.out.below RPt.stable hj)
      try replace hU := Lib.hid (hU.out.below RPt.stable hj)
      try replace hV := Lib.hid (hV.out.below RPt.stable hj)
      try replace hBy := Lib.hid (hBy.out.below RBy.stable hj)
      try replace hbw := Lib.hid (hbw.out.trans ((hj).mono hbw.out.size))
      clear hj
      go_wp2_with fail
      refine (HomeShape_any hR.out hsp.out hrp.out hH.out).mono ?_
      rintro _ w13 ⟨V, cV, rfl, hV, hj⟩
      replace hV := Lib.hid hV
      try replace hR := Lib.hid (hR.out.below RPt.stable hj)
      try replace hP := Lib.hid (hP.out.below RPt.stable hj)
      try replace hQ := Lib.hid (hQ.out.below RPt.stable hj)
      try replace hU := Lib.hid (hU.out.below RPt.stable hj)
      try replace hV := Lib.hid (hV.out.below RPt.stable hj)
      try replace hBy := Lib.hid (hBy.out.below RBy.stable hj)
      try replace hbw := Lib.hid (hbw.out.trans ((hj).mono hbw.out.size))
      clear hj
      go_wp2_with fail
      refine (sSameShape_any hU.out hV.out hN6).mono ?_
      rintro _ w14 ⟨rfl, hj⟩
      try replace hR := Lib.hid (hR.out.below RPt.stable hj)
      try replace hP := Lib.hid (hP.out.below RPt.stable hj)
      try replace hQ := Lib.hid (hQ.out.below RPt.stable hj)
      try replace hU := Lib.hid (hU.out.below RPt.stable hj)
      try replace hV := Lib.hid (hV.out.below RPt.stable hj)
      try replace hBy := Lib.hid (hBy.out.below RBy.stable hj)
      try replace hbw := Lib.hid (hbw.out.trans ((hj).mono hbw.out.size))
      clear hj
      go_wp2
      go_ret
      exact ⟨rfl, hbw.out⟩
end Go.Proofs.Ytkppijcjmhkkkaa
